/- Walks through the search for a byte from behind. -/
import Derived.Test.YthdjjcjklamliaaPunyE
set_option linter.unusedVariables false
set_option linter.unusedSimpArgs false
namespace Go.Proofs
open Go.Lv
namespace Pu
variable {H : Heap}

theorem ix_getD (s : List UInt8) (n : Nat) : ix s ((n : Int)) = s.getD n 0 := by simp [ix]; rfl

theorem lastStr_w (s : List UInt8) (c : UInt8) (hs : s.length < 1000000) : WF Try.prog cfg 28 [.str s, byteA c] H (fun r H' => r = .i (Puny.lastIx s c s.length) ∧ H' = H) := by
  have hm : ∀ d, cfg.muF 28 d = (false) := fun _ => rfl
  have hz : ∀ d, cfg.fzF 28 d = (false) := fun _ => rfl
  refine rF_fn rfl rfl Try.func28 rfl ?_
  repeat' (first | simp (disch := first | omega | assumption | decide) only [go_sem, hm, hz] | refine ifP_in (fun _ => ?_) (fun _ => ?_))
  refine rL_loop (σ := Nat) (fun n e H' => H' = H ∧ e 0 = .str s ∧ e 1 = byteA c ∧ e 5 = .i ((n : Int) - 1) ∧ n ≤ s.length ∧ Puny.lastIx s c n = Puny.lastIx s c s.length) (fun n => n) s.length ?_ ?_
  · refine ⟨rfl, ?_, ?_, ?_, by omega, rfl⟩ <;> simp (disch := first | assumption | omega) only [go_sem]
  · rintro n e H' ⟨rfl, g0, g1, g5, i1, i2⟩
    repeat' (first | simp (disch := first | omega | assumption | decide) only [go_sem, hm, hz, g0, g1, g5] | refine ifP_in (fun _ => ?_) (fun _ => ?_))
    · obtain ⟨m, rfl⟩ : ∃ m, n = m + 1 := ⟨n - 1, by omega⟩
      have he : ix s (((m + 1 : Nat) : Int) - 1) = s.getD m 0 := by rw [show ((m + 1 : Nat) : Int) - 1 = (m : Int) by omega]; exact ix_getD s m
      rw [Puny.lastIx] at i2
      rename_i hq
      rw [he] at hq
      have hq' : s.getD m 0 = c := UInt8.toNat_inj.1 (by omega)
      rw [if_pos hq'] at i2
      rw [← i2]; congr 2; omega
    · obtain ⟨m, rfl⟩ : ∃ m, n = m + 1 := ⟨n - 1, by omega⟩
      have he : ix s (((m + 1 : Nat) : Int) - 1) = s.getD m 0 := by rw [show ((m + 1 : Nat) : Int) - 1 = (m : Int) by omega]; exact ix_getD s m
      rw [Puny.lastIx] at i2
      rename_i hq
      rw [he] at hq
      have hq' : ¬ s.getD m 0 = c := fun h => hq (by rw [h])
      rw [if_neg hq'] at i2
      exact ⟨m, ⟨by congr 2; omega, by omega, i2⟩, by omega⟩
    · have : n = 0 := by omega
      subst this
      rw [← i2]; rfl
theorem last_w (s : List UInt8) (c : UInt8) (hs : s.length < 1000000) : WF Try.prog cfg 22 [.str s, byteA c] H (fun r H' => r = .i (Puny.lastIx s c s.length) ∧ H' = H) := by
  have hm : ∀ d, cfg.muF 22 d = (false) := fun _ => rfl
  have hz : ∀ d, cfg.fzF 22 d = (false) := fun _ => rfl
  refine rF_fn rfl rfl Try.func22 rfl ?_
  repeat' (first | simp (disch := first | omega | assumption | decide) only [go_sem, hm, hz] | refine ifP_in (fun _ => ?_) (fun _ => ?_))
  refine rF_use (lastStr_w s c hs) ?_
  rintro _ _ ⟨rfl, rfl⟩
  repeat' (first | simp (disch := first | omega | assumption | decide) only [go_sem, hm, hz] | refine ifP_in (fun _ => ?_) (fun _ => ?_))
end Pu
end Go.Proofs
