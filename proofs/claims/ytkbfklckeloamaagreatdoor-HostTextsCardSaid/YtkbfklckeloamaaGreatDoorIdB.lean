/- Walks: plain signs. -/
import Derived.Test.YtkbfklckeloamaaGreatDoorIdA
import Derived.Test.YtkbfklckeloamaaGreatDoorLvAll9
set_option linter.unusedVariables false
set_option linter.unusedSimpArgs false
namespace Go.Proofs
open Go.Lv
namespace In
open Pu
variable {H : Heap}
theorem high_w (c : Int) : WF Tryz.prog cfg 101 [.i c] H (fun r H' => r = .b (Id.high c) ∧ H' = H) := by
  have hm : ∀ d, cfg.muF 101 d = (false) := fun _ => rfl
  have hz : ∀ d, cfg.fzF 101 d = (false) := fun _ => rfl
  have ht : ∀ d, cfg.tkF 101 d = (false) := fun _ => rfl
  have hr_ : ∀ g, cfg.raw g = (g == 119 || g == 96) := fun _ => rfl
  refine rF_fn rfl rfl Tryz.func101 rfl ?_
  repeat' first | simp (disch := first | omega | assumption | decide) only [go_sem, hm, hz, ht, hr_] | refine ifP_in (fun _ => ?_) fun _ => ?_
  all_goals (simp only [AV.v.injEq, Value.bool.injEq]; exact Bool.eq_iff_iff.2 (by simp [Id.high]; omega))
theorem indexF_w (l : List Int) (hl : l.length ≤ 140737488355328) : WF Tryz.prog cfg 116 [.sl (l.map iA), .fn 101 []] H (fun r H' => ∃ k : Int, r = .i k ∧ H' = H ∧ (0 ≤ k ↔ Id.plain l = false) ∧ -1 ≤ k ∧ k < 140737488355329) := by
  have hm : ∀ d, cfg.muF 116 d = (false) := fun _ => rfl
  have hz : ∀ d, cfg.fzF 116 d = (false) := fun _ => rfl
  have ht : ∀ d, cfg.tkF 116 d = (false) := fun _ => rfl
  have hr_ : ∀ g, cfg.raw g = (g == 119 || g == 96) := fun _ => rfl
  refine rF_fn rfl rfl Tryz.func116 rfl ?_
  repeat' first | simp (disch := first | omega | assumption | decide) only [go_sem, hm, hz, ht, hr_] | refine ifP_in (fun _ => ?_) fun _ => ?_
  refine rL_loop (σ := Nat) (fun i e H' => H' = H ∧ e 0 = .sl (l.map iA) ∧ e 1 = .fn 101 [] ∧ e 7 = .i l.length ∧ e 8 = .i i ∧ i ≤ l.length ∧ Id.plain (l.take i) = true) (fun i => l.length - i) 0 ?_ ?_
  · refine ⟨rfl, ?_, ?_, ?_, ?_, by omega, rfl⟩
    all_goals first | (simp (disch := first | assumption | omega) only [go_sem]; done) | (simp (disch := first | assumption | omega) only [go_sem]; rfl)
  · rintro i e H' ⟨rfl, g0, g1, g7, g8, i1, i2⟩
    have hdyn : cfg.dyn 101 = true := by decide
    by_cases hi : i < l.length
    · have hix : ix l (i : Int) = l[i] := by simp [ix, List.getD_eq_getElem?_getD, List.getElem?_eq_getElem hi]
      repeat' first | simp (disch := first | omega | assumption | decide) only [go_sem, hm, hz, ht, hr_, g0, g1, g7, g8, hix, hdyn] | refine ifP_in (fun _ => ?_) fun _ => ?_
      refine rF_use (high_w l[i]) ?_
      rintro _ H1 ⟨rfl, rfl⟩
      cases hh : Id.high l[i] with
      | true =>
        repeat' first | simp (disch := first | omega | assumption | decide) only [go_sem, hm, hz, ht, hr_, g0, g1, g7, g8, hix] | refine ifP_in (fun _ => ?_) fun _ => ?_
        refine ⟨i, rfl, ⟨fun _ => ?_, fun _ => by omega⟩, by omega, by omega⟩
        exact Id.plain_not l i hi hh
      | false =>
        repeat' first | simp (disch := first | omega | assumption | decide) only [go_sem, hm, hz, ht, hr_, g0, g1, g7, g8, hix] | refine ifP_in (fun _ => ?_) fun _ => ?_
        refine ⟨i + 1, ⟨rfl, by omega, ?_⟩, by omega⟩
        exact Id.plain_snoc l i hi i2 hh
    · have : i = l.length := by omega
      subst this
      rw [List.take_length] at i2
      repeat' first | simp (disch := first | omega | assumption | decide) only [go_sem, hm, hz, ht, hr_, g0, g1, g7, g8] | refine ifP_in (fun _ => ?_) fun _ => ?_
      refine ⟨-1, rfl, ⟨fun h => by omega, fun h => by rw [i2] at h; cases h⟩, by omega, by omega⟩
theorem containsF_w (l : List Int) (hl : l.length ≤ 140737488355328) : WF Tryz.prog cfg 100 [.sl (l.map iA), .fn 101 []] H (fun r H' => r = .b (!Id.plain l) ∧ H' = H) := by
  have hm : ∀ d, cfg.muF 100 d = (false) := fun _ => rfl
  have hz : ∀ d, cfg.fzF 100 d = (false) := fun _ => rfl
  have ht : ∀ d, cfg.tkF 100 d = (false) := fun _ => rfl
  have hr_ : ∀ g, cfg.raw g = (g == 119 || g == 96) := fun _ => rfl
  refine rF_fn rfl rfl Tryz.func100 rfl ?_
  repeat' first | simp (disch := first | omega | assumption | decide) only [go_sem, hm, hz, ht, hr_] | refine ifP_in (fun _ => ?_) fun _ => ?_
  refine rF_use (indexF_w l hl) ?_
  rintro _ H1 ⟨k, rfl, rfl, hk, k1, k2⟩
  repeat' first | simp (disch := first | omega | assumption | decide) only [go_sem, hm, hz, ht, hr_] | refine ifP_in (fun _ => ?_) fun _ => ?_
  all_goals (cases hp : Id.plain l <;> simp [hp] at hk ⊢ <;> omega)
theorem plain_w (l : List Int) (hl : l.length ≤ 140737488355328) : WF Tryz.prog cfg 73 [.sl (l.map iA)] H (fun r H' => r = .b (Id.plain l) ∧ H' = H) := by
  have hm : ∀ d, cfg.muF 73 d = (false) := fun _ => rfl
  have hz : ∀ d, cfg.fzF 73 d = (false) := fun _ => rfl
  have ht : ∀ d, cfg.tkF 73 d = (false) := fun _ => rfl
  have hr_ : ∀ g, cfg.raw g = (g == 119 || g == 96) := fun _ => rfl
  refine rF_fn rfl rfl Tryz.func73 rfl ?_
  repeat' first | simp (disch := first | omega | assumption | decide) only [go_sem, hm, hz, ht, hr_] | refine ifP_in (fun _ => ?_) fun _ => ?_
  refine rF_use (containsF_w l hl) ?_
  rintro _ H1 ⟨rfl, rfl⟩
  repeat' first | simp (disch := first | omega | assumption | decide) only [go_sem, hm, hz, ht, hr_] | refine ifP_in (fun _ => ?_) fun _ => ?_
  all_goals simp
end In
end Go.Proofs
