/- Walks through number. -/
import Derived.Test.YthdjjcjklamliaaPunyC
set_option linter.unusedVariables false
set_option linter.unusedSimpArgs false
namespace Go.Proofs
open Go.Lv
namespace Pu
variable {H : Heap}

theorem number_w (b : List UInt8) (q bias : Int) (hb : b.length < 1000000) (hq : 0 ≤ q ∧ q < 1000000000000) (hbi : -1000000 < bias ∧ bias < 1000000) : WF Try.prog cfg 16 [.sl (b.map byteA), .i q, .i bias] H (fun r H' => r = .sl ((b ++ Puny.numL q 36 bias).map byteA) ∧ H' = H) := by
  have hm : ∀ d, cfg.muF 16 d = (false) := fun _ => rfl
  have hz : ∀ d, cfg.fzF 16 d = (false) := fun _ => rfl
  refine rF_fn rfl rfl Try.func16 rfl ?_
  repeat' (first | simp (disch := first | omega | assumption | decide) only [go_sem, hm, hz] | refine ifP_in (fun _ => ?_) (fun _ => ?_))
  refine rL_loop (σ := List UInt8 × Int × Int) (fun s e H' => H' = H ∧ e 0 = .sl (s.1.map byteA) ∧ e 1 = .i s.2.1 ∧ e 2 = .i bias ∧ e 7 = .i s.2.2 ∧ 0 ≤ s.2.1 ∧ s.2.1 < 1000000000000 ∧ 0 ≤ s.2.2 ∧ s.2.2 + 36 * s.2.1 < 36000000000036 + 36 ∧ (s.1.length : Int) + s.2.1 < 1000000 + 1000000000000 ∧ s.1 ++ Puny.numL s.2.1 s.2.2 bias = b ++ Puny.numL q 36 bias) (fun s => s.2.1.toNat) (b, q, 36) ?_ ?_
  · refine ⟨rfl, ?_, ?_, ?_, ?_, by simp only; omega, by simp only; omega, by simp only; omega, by simp only; omega, by simp only; omega, rfl⟩ <;> simp (disch := first | assumption | omega) only [go_sem]
  · rintro ⟨c, q, k⟩ e H' ⟨rfl, g0, g1, g2, g7, i1, i2, i3, i4, i5, i6⟩
    simp only at g0 g1 g2 g7 i1 i2 i3 i4 i5 i6
    repeat' (first | simp (disch := first | omega | assumption | decide) only [go_sem, hm, hz, g0, g1, g2, g7] | refine ifP_in (fun _ => ?_) (fun _ => ?_))
    refine rF_use (thr_w k bias (by omega) (by omega)) ?_
    rintro _ _ ⟨rfl, rfl⟩
    have t1 := Puny.thr_bnd k bias
    rw [Puny.numL] at i6
    generalize Puny.thr k bias = t at *
    have m1 := Int.emod_nonneg (q - t) (by omega : 36 - t ≠ 0)
    have m2 := Int.emod_lt_of_pos (q - t) (by omega : 0 < 36 - t)
    repeat' (first | simp (disch := first | omega | assumption | decide) only [go_sem, hm, hz, g0, g1, g2, g7] | refine ifP_in (fun _ => ?_) (fun _ => ?_))
    · refine rF_use (ltr_w q (by omega)) ?_
      rintro _ _ ⟨rfl, rfl⟩
      repeat' (first | simp (disch := first | omega | assumption | decide) only [go_sem, hm, hz, g0, g1, g2, g7] | refine ifP_in (fun _ => ?_) (fun _ => ?_))
      rw [dif_pos (by assumption)] at i6
      rw [i6]
    · refine rF_use (ltr_w _ (by omega)) ?_
      rintro _ _ ⟨rfl, rfl⟩
      have m3 := Puny.div_lt_self' t1.1 t1.2 (show t ≤ q by omega)
      rw [dif_neg (by assumption)] at i6
      repeat' (first | simp (disch := first | omega | assumption | decide) only [go_sem, hm, hz, g0, g1, g2, g7] | refine ifP_in (fun _ => ?_) (fun _ => ?_))
      refine ⟨(c ++ [Puny.ltr (t + (q - t) % (36 - t))], (q - t) / (36 - t), k + 36), ⟨rfl, rfl, rfl, by simp only; omega, by simp only; omega, by simp only; omega, by simp only; omega, by simp only [List.length_append, List.length_singleton]; omega, ?_⟩, by simp only; omega⟩
      rw [← i6]; simp
end Pu
end Go.Proofs
