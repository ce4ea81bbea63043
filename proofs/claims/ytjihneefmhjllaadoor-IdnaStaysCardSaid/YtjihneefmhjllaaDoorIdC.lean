/- Walks: a text's bytes as signs. -/
import Derived.Test.YtjihneefmhjllaaDoorIdB
set_option linter.unusedVariables false
set_option linter.unusedSimpArgs false
namespace Go.Proofs
open Go.Lv
namespace In
open Pu
variable {H : Heap}
theorem signs_w (s : List UInt8) (hs : s.length < 1000000) : WF Tryd.prog cfg 14 [.str s] H (fun r H' => r = .sl ((Puny.ints s).map iA) ∧ H' = H) := by
  have hm : ∀ d, cfg.muF 14 d = (false) := fun _ => rfl
  have hz : ∀ d, cfg.fzF 14 d = (false) := fun _ => rfl
  have ht : ∀ d, cfg.tkF 14 d = (false) := fun _ => rfl
  have hr_ : ∀ g, cfg.raw g = (g == 60 || g == 63) := fun _ => rfl
  refine rF_fn rfl rfl Tryd.func14 rfl ?_
  repeat' (first | simp (disch := first | omega | assumption | decide) only [go_sem, hm, hz, ht, hr_] | refine ifP_in (fun _ => ?_) (fun _ => ?_))
  refine rL_loop (σ := Nat) (fun i e H' => H' = H ∧ e 0 = .str s ∧ e 4 = .i i ∧ i ≤ s.length ∧ e 3 = .sl ((Puny.ints (s.take i)).map iA)) (fun i => s.length - i) 0 ?_ ?_
  · refine ⟨rfl, ?_, ?_, by omega, ?_⟩
    all_goals first | (simp (disch := first | assumption | omega) only [go_sem]; done) | (simp (disch := first | assumption | omega) only [go_sem]; rfl)
  · rintro i e H' ⟨rfl, g0, g4, gi, g3⟩
    by_cases hil : i < s.length
    · have hlen : (Puny.ints (s.take i)).length ≤ i := by simp [Puny.ints]; omega
      repeat' (first | simp (disch := first | omega | assumption | decide) only [go_sem, hm, hz, ht, hr_, g0, g3, g4] | refine ifP_in (fun _ => ?_) (fun _ => ?_))
      refine ⟨i + 1, ⟨rfl, by omega, ?_⟩, by omega⟩
      unfold Puny.ints
      rw [bytes_take hil]
    · obtain rfl : i = s.length := by omega
      rw [List.take_length] at g3
      repeat' (first | simp (disch := first | omega | assumption | decide) only [go_sem, hm, hz, ht, hr_, g0, g3, g4] | refine ifP_in (fun _ => ?_) (fun _ => ?_))
end In
end Go.Proofs
