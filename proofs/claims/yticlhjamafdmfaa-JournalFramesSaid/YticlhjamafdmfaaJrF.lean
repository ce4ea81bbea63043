/- Walks: lists of bytes, the document's reading. -/
import Derived.Test.YticlhjamafdmfaaJrE
set_option linter.unusedVariables false
set_option linter.unusedSimpArgs false
namespace Go.Proofs
open Go.Lv
namespace Jn
variable {H : Heap}

theorem cells_bytes {l : List UInt8} : AV.cells (AV.bytes l) = [AV.bytes l] := rfl
theorem rLists_w (a b : List (List UInt8)) (ha : a.length < 1000000) {x y : AV} (hx : x = .sl (a.map AV.bytes)) (hy : y = .sl (b.map AV.bytes)) : WF Try.prog cfg 18 [x, y] H (fun r H' => r = .b (decide (a = b)) ∧ H' = H) := by
  subst hx hy
  have hm : ∀ d, cfg.muF 18 d = (false) := fun _ => rfl
  have hz : ∀ d, cfg.fzF 18 d = (false) := fun _ => rfl
  have ht : ∀ d, cfg.tkF 18 d = (false) := fun _ => rfl
  have hr_ : ∀ g, cfg.raw g = (g == 58 || g == 69) := fun _ => rfl
  refine rF_fn rfl rfl Try.func18 rfl ?_
  repeat' (first | simp (disch := first | omega | assumption | decide) only [go_sem, hm, hz, ht, hr_] | refine ifP_in (fun _ => ?_) (fun _ => ?_))
  · rename_i hne
    have : ¬ a = b := fun h => hne (by rw [h])
    simp [this]
  · rename_i heq
    have heq : a.length = b.length := by omega
    refine rL_loop (σ := Nat) (fun i e H' => H' = H ∧ e 0 = .sl (a.map AV.bytes) ∧ e 1 = .sl (b.map AV.bytes) ∧ e 5 = .i i ∧ i ≤ a.length ∧ a.take i = b.take i) (fun i => a.length - i) 0 ?_ ?_
    · refine ⟨rfl, ?_, ?_, ?_, by omega, by simp⟩
      all_goals first | (simp (disch := first | assumption | omega) only [go_sem]; done) | (simp (disch := first | assumption | omega) only [go_sem]; rfl)
    · rintro i e H' ⟨rfl, g0, g1, g5, i1, i2⟩
      repeat' (first | simp (disch := first | omega | assumption | decide) only [go_sem, hm, hz, ht, hr_, g0, g1, g5, cells_bytes] | refine ifP_in (fun _ => ?_) (fun _ => ?_))
      · refine rF_use (rBytes_w (ix a (i : Int)) (ix b (i : Int)) rfl rfl) ?_
        rintro _ H1 ⟨rfl, rfl⟩
        repeat' (first | simp (disch := first | omega | assumption | decide) only [go_sem, hm, hz, ht, hr_] | refine ifP_in (fun _ => ?_) (fun _ => ?_))
        refine seenR_effL (by simp) rfl ?_ ?_
        · intro x hx
          rcases List.mem_cons.1 hx with rfl | hx
          · exact .inr (by simp (disch := first | assumption | omega) only [go_sem, cells_bytes])
          rcases List.mem_cons.1 hx with rfl | hx
          · exact .inr (by simp (disch := first | assumption | omega) only [go_sem, cells_bytes])
          · simp at hx
        have hax : ix a (i : Int) = a[i]'(by omega) := by simp [ix, List.getD_eq_getElem?_getD, List.getElem?_eq_getElem (show i < a.length by omega)]
        have hbx : ix b (i : Int) = b[i]'(by omega) := by simp [ix, List.getD_eq_getElem?_getD, List.getElem?_eq_getElem (show i < b.length by omega)]
        repeat' (first | simp (disch := first | omega | assumption | decide) only [go_sem, hm, hz, ht, hr_, g0, g1, g5] | refine ifP_in (fun _ => ?_) (fun _ => ?_))
        · rename_i hne
          rw [hax, hbx] at hne
          have : ¬ a = b := by rintro rfl; exact hne rfl
          simp [this]
        · rename_i he
          rw [hax, hbx] at he
          refine ⟨i + 1, ⟨by congr 2, by omega, ?_⟩, by omega⟩
          have he' : a[i]'(by omega) = b[i]'(by omega) := by first | exact he | exact Classical.not_not.1 he
          rw [List.take_succ_eq_append_getElem (by omega), List.take_succ_eq_append_getElem (by omega), i2, he']
      · have : i = a.length := by omega
        subst this
        rw [List.take_length, heq, List.take_length] at i2
        simp [i2]
end Jn
end Go.Proofs
