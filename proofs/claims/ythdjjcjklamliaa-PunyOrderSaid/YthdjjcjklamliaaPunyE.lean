/- Walks through delta. -/
import Derived.Test.YthdjjcjklamliaaPunyD
set_option linter.unusedVariables false
set_option linter.unusedSimpArgs false
namespace Go.Proofs
open Go.Lv
namespace Pu
variable {H : Heap}

theorem dgt_bnd (c : UInt8) : 0 ≤ Puny.dgt c ∧ Puny.dgt c ≤ 36 := by
  unfold Puny.dgt
  split
  · omega
  · split
    · omega
    · split <;> omega

def deltaA (r : Option (Int × Int)) : AV := match r with
  | some (x, e) => .tup [.i x, .i e, .b true]
  | none => .tup [.i 0, .i 0, .b false]

theorem delta_w (s : List UInt8) (a i bias : Int) (hs : s.length < 1000000) (ha : 0 ≤ a ∧ a ≤ s.length) (hi : 0 ≤ i ∧ i ≤ 2147483647) (hb : -1000000 < bias ∧ bias < 1000000) :
    WF Try.prog cfg 23 [.str s, .i a, .i i, .i bias] H (fun r H' => r = deltaA (Puny.deltaR (s.drop a.toNat) a i 1 36 bias) ∧ H' = H) := by
  have hm : ∀ d, cfg.muF 23 d = (false) := fun _ => rfl
  have hz : ∀ d, cfg.fzF 23 d = (false) := fun _ => rfl
  refine rF_fn rfl rfl Try.func23 rfl ?_
  repeat' (first | simp (disch := first | omega | assumption | decide) only [go_sem, hm, hz] | refine ifP_in (fun _ => ?_) (fun _ => ?_))
  refine rL_loop (σ := Int × Int × Int × Int) (fun z e H' => H' = H ∧ e 0 = .str s ∧ e 1 = .i z.1 ∧ e 2 = .i z.2.1 ∧ e 3 = .i bias ∧ e 11 = .i z.2.2.1 ∧ e 12 = .i z.2.2.2 ∧ 0 ≤ z.1 ∧ z.1 ≤ s.length ∧ 0 ≤ z.2.1 ∧ z.2.1 ≤ 2147483647 ∧ 1 ≤ z.2.2.1 ∧ z.2.2.1 ≤ 2147483647 ∧ 0 ≤ z.2.2.2 ∧ z.2.2.2 ≤ 36 + 36 * z.1 ∧ Puny.deltaR (s.drop z.1.toNat) z.1 z.2.1 z.2.2.1 z.2.2.2 bias = Puny.deltaR (s.drop a.toNat) a i 1 36 bias) (fun z => s.length - z.1.toNat) (a, i, 1, 36) ?_ ?_
  · refine ⟨rfl, ?_, ?_, ?_, ?_, ?_, ?_, by simp only; omega, by simp only; omega, by simp only; omega, by simp only; omega, by simp only; omega, by simp only; omega, by simp only; omega, by simp only; omega, rfl⟩ <;> simp (disch := first | assumption | omega) only [go_sem]
  · rintro ⟨at_, i, w, k⟩ e H' ⟨rfl, g0, g1, g2, g3, g11, g12, i1, i2, i3, i4, i5, i6, i7, i8, i9⟩
    simp only at g0 g1 g2 g3 g11 g12 i1 i2 i3 i4 i5 i6 i7 i8 i9
    rw [← i9]
    clear i9
    repeat' (first | simp (disch := first | omega | assumption | decide) only [go_sem, hm, hz, g0, g1, g2, g3, g11, g12] | refine ifP_in (fun _ => ?_) (fun _ => ?_))
    · rw [List.drop_of_length_le (by omega)]; rfl
    · have hlt : at_.toNat < s.length := by omega
      have hdrop : s.drop at_.toNat = ix s at_ :: s.drop (at_ + 1).toNat := by
        rw [List.drop_eq_getElem_cons hlt, show (at_ + 1).toNat = at_.toNat + 1 by omega]
        simp [ix, List.getD_eq_getElem?_getD, List.getElem?_eq_getElem hlt]
      rw [hdrop]
      generalize ix s at_ = c
      refine rF_use (dgt_w c) ?_
      rintro _ _ ⟨rfl, rfl⟩
      have d1 := dgt_bnd c
      rw [Puny.deltaR]
      generalize Puny.dgt c = d at *
      have q1 : 0 ≤ (2147483647 - i) / w := Int.ediv_nonneg (by omega) (by omega)
      have q2 : (2147483647 - i) / w ≤ 2147483647 - i := Int.ediv_le_self _ (by omega)
      repeat' (first | simp (disch := first | omega | assumption | decide) only [go_sem, hm, hz, g0, g1, g2, g3, g11, g12] | refine ifP_in (fun _ => ?_) (fun _ => ?_))
      · rw [if_pos (by omega)]; rfl
      · rename_i hd1 hd2 _
        refine rF_use (thr_w k bias (by omega) (by omega)) ?_
        rintro _ _ ⟨rfl, rfl⟩
        have t1 := Puny.thr_bnd k bias
        rw [if_neg (by omega)]
        generalize Puny.thr k bias = t at *
        have q3 : d * w ≤ 2147483647 - i := Int.le_trans (Int.mul_le_mul_of_nonneg_right (by omega : d ≤ (2147483647 - i) / w) (by omega)) (Int.ediv_mul_le _ (by omega))
        have q4 : 0 ≤ d * w := Int.mul_nonneg (by omega) (by omega)
        have q5 : 0 ≤ 2147483647 / (36 - t) := Int.ediv_nonneg (by omega) (by omega)
        have q6 : 2147483647 / (36 - t) ≤ 2147483647 := Int.ediv_le_self _ (by omega)
        repeat' (first | simp (disch := first | omega | assumption | decide) only [go_sem, hm, hz, g0, g1, g2, g3, g11, g12] | refine ifP_in (fun _ => ?_) (fun _ => ?_))
        · rw [if_pos (by assumption)]; rfl
        · rw [if_neg (by assumption), if_pos (by assumption)]; rfl
        · rw [if_neg (by assumption), if_neg (by assumption)]
          have q7 : w * (36 - t) ≤ 2147483647 := Int.le_trans (Int.mul_le_mul_of_nonneg_right (by omega : w ≤ 2147483647 / (36 - t)) (by omega)) (Int.ediv_mul_le _ (by omega))
          have q8 : 1 * 1 ≤ w * (36 - t) := Int.mul_le_mul i5 (by omega) (by omega) (by omega)
          repeat' (first | simp (disch := first | omega | assumption | decide) only [go_sem, hm, hz, g0, g1, g2, g3, g11, g12] | refine ifP_in (fun _ => ?_) (fun _ => ?_))
          exact ⟨(at_ + 1, i + d * w, w * (36 - t), k + 36), ⟨rfl, rfl, rfl, rfl, by simp only; omega, by simp only; omega, by simp only; omega, by simp only; omega, by simp only; omega, by simp only; omega, by simp only; omega, by simp only; omega, rfl⟩, by simp only; omega⟩
      · rw [if_pos (by omega)]; rfl
end Pu
end Go.Proofs
