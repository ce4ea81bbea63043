/- Walks through the small functions of the chapter on signs by few letters. -/
import Derived.Test.YtiboedaicjkfnaaGreatDoorWR8U
import Derived.Test.YtiboedaicjkfnaaGreatDoorLvAll11
import Derived.Test.YtiboedaicjkfnaaGreatDoorPunyAllax0
set_option linter.unusedVariables false
set_option linter.unusedSimpArgs false
namespace Go.Proofs
open Go.Lv
namespace Pu
variable {H : Heap}
theorem thr_w (k b : Int) (h1 : -1000000000000000 < k ∧ k < 1000000000000000) (h2 : -1000000000000 < b ∧ b < 1000000000000) : WF Tryz.prog cfg 153 [.i k, .i b] H (fun r H' => r = .i (Puny.thr k b) ∧ H' = H) := by
 have hm : ∀ d, cfg.muF 153 d = (false) := fun _ => rfl
 have hz : ∀ d, cfg.fzF 153 d = (false) := fun _ => rfl
 have ht : ∀ d, cfg.tkF 153 d = (false) := fun _ => rfl
 have hr_ : ∀ g, cfg.raw g = (g == 152 || g == 118) := fun _ => rfl
 refine rF_fn rfl rfl Tryz.func153 rfl ?_
 repeat' first|simp (disch:=first|omega|assumption|decide) only[go_sem,hm,hz,ht,hr_]|(apply ifP_in<;>intro)
 rfl
theorem scalar_w (c : Int) : WF Tryz.prog cfg 124 [.i c] H (fun r H' => r = .b (Puny.scalar c) ∧ H' = H) := by
 have hm : ∀ d, cfg.muF 124 d = (false) := fun _ => rfl
 have hz : ∀ d, cfg.fzF 124 d = (false) := fun _ => rfl
 have ht : ∀ d, cfg.tkF 124 d = (false) := fun _ => rfl
 have hr_ : ∀ g, cfg.raw g = (g == 152 || g == 118) := fun _ => rfl
 refine rF_fn rfl rfl Tryz.func124 rfl ?_
 repeat' first|simp (disch:=first|omega|assumption|decide) only[go_sem,hm,hz,ht,hr_]|(apply ifP_in<;>intro)
 all_goals (simp only [AV.v.injEq, Value.bool.injEq]; exact Bool.eq_iff_iff.2 (by simp [Puny.scalar]; omega))
theorem ltr_w (d : Int) (h1 : 0 ≤ d ∧ d < 36) : WF Tryz.prog cfg 154 [.i d] H (fun r H' => r = byteA (Puny.ltr d) ∧ H' = H) := by
 have hm : ∀ d, cfg.muF 154 d = (false) := fun _ => rfl
 have hz : ∀ d, cfg.fzF 154 d = (false) := fun _ => rfl
 have ht : ∀ d, cfg.tkF 154 d = (false) := fun _ => rfl
 have hr_ : ∀ g, cfg.raw g = (g == 152 || g == 118) := fun _ => rfl
 refine rF_fn rfl rfl Tryz.func154 rfl ?_
 repeat' first|simp (disch:=first|omega|assumption|decide) only[go_sem,hm,hz,ht,hr_]|(apply ifP_in<;>intro)
 all_goals simp [Puny.ltr, byteA, *]
 all_goals omega
theorem dgt_w (c : UInt8) : WF Tryz.prog cfg 162 [byteA c] H (fun r H' => r = .i (Puny.dgt c) ∧ H' = H) := by
 have hc := c.toNat_lt
 have hm : ∀ d, cfg.muF 162 d = (false) := fun _ => rfl
 have hz : ∀ d, cfg.fzF 162 d = (false) := fun _ => rfl
 have ht : ∀ d, cfg.tkF 162 d = (false) := fun _ => rfl
 have hr_ : ∀ g, cfg.raw g = (g == 152 || g == 118) := fun _ => rfl
 refine rF_fn rfl rfl Tryz.func162 rfl ?_
 repeat' first|simp (disch:=first|omega|assumption|decide) only[go_sem,hm,hz,ht,hr_]|(apply ifP_in<;>intro)
 all_goals (simp only [AV.v.injEq, Value.int.injEq, true_and, Puny.dgt]; omega)
end Pu
end Go.Proofs
/- Walks through adapt. -/
set_option linter.unusedVariables false
set_option linter.unusedSimpArgs false
namespace Go.Proofs
open Go.Lv
namespace Pu
variable {H : Heap}
theorem adapt_w (delta n : Int) (b : Bool) (h0 : 0 ≤ delta ∧ delta < 1000000000000) (h1 : 0 < n ∧ n < 1000000) : WF Tryz.prog cfg 129 [.i delta, .i n, .b b] H (fun r H' => r = .i (Puny.adapt delta n b) ∧ H' = H) := by
 have hd : ∀ x : Int, 0 ≤ x → 0 ≤ x / n ∧ x / n ≤ x := fun x hx => ⟨Int.ediv_nonneg hx (by omega), Int.ediv_le_self _ hx⟩
 have hd1 := hd (delta / 700) (by omega)
 have hd2 := hd (delta / 2) (by omega)
 have he : ∀ x : Int, 0 ≤ x → 0 ≤ 36 * x / (x + 38) ∧ 36 * x / (x + 38) ≤ 36 * x := fun x hx => ⟨Int.ediv_nonneg (by omega) (by omega), Int.ediv_le_self _ (by omega)⟩
 clear hd
 have hm : ∀ d, cfg.muF 129 d = (false) := fun _ => rfl
 have hz : ∀ d, cfg.fzF 129 d = (false) := fun _ => rfl
 have ht : ∀ d, cfg.tkF 129 d = (false) := fun _ => rfl
 have hr_ : ∀ g, cfg.raw g = (g == 152 || g == 118) := fun _ => rfl
 refine rF_fn rfl rfl Tryz.func129 rfl ?_
 repeat' first|simp (disch:=first|omega|assumption|decide) only[go_sem,hm,hz,ht,hr_,Nat.reducePow]|(apply ifP_in<;>intro)
 ·refine rL_loop (σ := Int × Int) (fun s e H' => H' = H ∧ e 0 = .i s.1 ∧ e 7 = .i s.2 ∧ 0 ≤ s.1 ∧ 0 ≤ s.2 ∧ s.2 + s.1 < 9000000000000 ∧ Puny.adaptL s.1 s.2 = Puny.adaptL (delta / 700 + delta / 700 / n) 0) (fun s => s.1.toNat) (delta / 700 + delta / 700 / n, 0) ?_ ?_
  ·refine ⟨rfl, ?_, ?_, by omega, by omega, by omega, rfl⟩
   ·simp (disch := first | omega | assumption | decide) only [go_sem, hm, hz, ht, hr_]
   ·simp (disch := first | omega | assumption | decide) only [go_sem, hm, hz, ht, hr_]
  ·rintro ⟨d, k⟩ e H' ⟨rfl, g0, g7, g1, g3, g4, g5⟩
   simp only at g0 g7 g1 g3 g4 g5
   rw [Puny.adaptL] at g5
   have he := he d g1
   repeat' first|simp (disch:=first|omega|assumption|decide) only[go_sem,hm,hz,ht,hr_,g0,g7]|(apply ifP_in<;>intro)
   ·rw [dif_pos (by assumption)] at g5
    exact ⟨(d / 35, k + 36), ⟨rfl, rfl, by simp only; omega, by simp only; omega, by simp only; omega, g5⟩, by simp only; omega⟩
   ·rw [dif_neg (by assumption)] at g5
    have hb : b = true := by assumption
    simp only [AV.v.injEq, Value.int.injEq, true_and, Puny.adapt, hb, if_true, ← g5]
 ·refine rL_loop (σ := Int × Int) (fun s e H' => H' = H ∧ e 0 = .i s.1 ∧ e 7 = .i s.2 ∧ 0 ≤ s.1 ∧ 0 ≤ s.2 ∧ s.2 + s.1 < 9000000000000 ∧ Puny.adaptL s.1 s.2 = Puny.adaptL (delta / 2 + delta / 2 / n) 0) (fun s => s.1.toNat) (delta / 2 + delta / 2 / n, 0) ?_ ?_
  ·refine ⟨rfl, ?_, ?_, by omega, by omega, by omega, rfl⟩
   ·simp (disch := first | omega | assumption | decide) only [go_sem, hm, hz, ht, hr_]
   ·simp (disch := first | omega | assumption | decide) only [go_sem, hm, hz, ht, hr_]
  ·rintro ⟨d, k⟩ e H' ⟨rfl, g0, g7, g1, g3, g4, g5⟩
   simp only at g0 g7 g1 g3 g4 g5
   rw [Puny.adaptL] at g5
   have he := he d g1
   repeat' first|simp (disch:=first|omega|assumption|decide) only[go_sem,hm,hz,ht,hr_,g0,g7]|(apply ifP_in<;>intro)
   ·rw [dif_pos (by assumption)] at g5
    exact ⟨(d / 35, k + 36), ⟨rfl, rfl, by simp only; omega, by simp only; omega, by simp only; omega, g5⟩, by simp only; omega⟩
   ·rw [dif_neg (by assumption)] at g5
    have hb : b = false := by simpa using (by assumption : ¬ b = true)
    simp only [AV.v.injEq, Value.int.injEq, true_and, Puny.adapt, hb, Bool.false_eq_true, if_false, ← g5]
end Pu
end Go.Proofs
/- Walks through next. -/
set_option linter.unusedVariables false
set_option linter.unusedSimpArgs false
namespace Go.Proofs
open Go.Lv
namespace Pu
variable {H : Heap}
theorem foldl_take {α β : Type} [Inhabited α] (f : β → α → β) (b : β) (l : List α) (i : Nat) (h : i < l.length) : (l.take (i + 1)).foldl f b = f ((l.take i).foldl f b) (ix l (i : Int)) := by
 rw [List.take_add_one, List.foldl_append]
 simp [ix, xgD, xgE h]
theorem next_w (l : List Int) (n : Int) (hl : l.length < 1000000) : WF Tryz.prog cfg 127 [.sl (l.map fun n => AV.v (.int .i64 n)), .i n] H (fun r H' => r = .i (Puny.nxt l n) ∧ H' = H) := by
 have hm : ∀ d, cfg.muF 127 d = (false) := fun _ => rfl
 have hz : ∀ d, cfg.fzF 127 d = (false) := fun _ => rfl
 have ht : ∀ d, cfg.tkF 127 d = (false) := fun _ => rfl
 have hr_ : ∀ g, cfg.raw g = (g == 152 || g == 118) := fun _ => rfl
 refine rF_fn rfl rfl Tryz.func127 rfl ?_
 repeat' first|simp (disch:=first|omega|assumption|decide) only[go_sem,hm,hz,ht,hr_]|(apply ifP_in<;>intro)
 refine rL_loop (σ := Nat) (fun i e H' => H' = H ∧ e 1 = .i n ∧ e 8 = .sl (l.map fun n => AV.v (.int .i64 n)) ∧ e 9 = .i l.length ∧ e 10 = .i i ∧ i ≤ l.length ∧ e 5 = .i ((l.take i).foldl (Puny.nx n) 2147483647)) (fun i => l.length - i) 0 ?_ ?_
 ·refine ⟨rfl, ?_, ?_, ?_, ?_, by omega, ?_⟩ <;> simp (disch := first | assumption | omega) only [go_sem] <;> rfl
 ·rintro i e H' ⟨rfl, g1, g8, g9, g10, gi, g5⟩
  repeat' first|simp (disch:=first|omega|assumption|decide) only[go_sem,hm,hz,ht,hr_,g1,g8,g9,g10,g5]|(apply ifP_in<;>intro)
  ·refine ⟨i + 1, ⟨by simp, by omega, ?_⟩, by omega⟩
   rw [foldl_take _ _ _ _ (by omega), Puny.nx, if_pos (by assumption)]
  ·refine ⟨i + 1, ⟨by simp, by omega, ?_⟩, by omega⟩
   rw [foldl_take _ _ _ _ (by omega), Puny.nx, if_neg (by assumption)]
  ·rw [List.take_of_length_le (by omega)]; rfl
end Pu
end Go.Proofs
/- Walks through number. -/
set_option linter.unusedVariables false
set_option linter.unusedSimpArgs false
namespace Go.Proofs
open Go.Lv
namespace Pu
variable {H : Heap}
theorem number_w (b : List UInt8) (q bias : Int) (hb : b.length < 1000000) (hq : 0 ≤ q ∧ q < 1000000000000) (hbi : -1000000 < bias ∧ bias < 1000000) : WF Tryz.prog cfg 128 [.sl (b.map byteA), .i q, .i bias] H (fun r H' => r = .sl ((b ++ Puny.numL q 36 bias).map byteA) ∧ H' = H) := by
 have hm : ∀ d, cfg.muF 128 d = (false) := fun _ => rfl
 have hz : ∀ d, cfg.fzF 128 d = (false) := fun _ => rfl
 have ht : ∀ d, cfg.tkF 128 d = (false) := fun _ => rfl
 have hr_ : ∀ g, cfg.raw g = (g == 152 || g == 118) := fun _ => rfl
 refine rF_fn rfl rfl Tryz.func128 rfl ?_
 repeat' first|simp (disch:=first|omega|assumption|decide) only[go_sem,hm,hz,ht,hr_]|(apply ifP_in<;>intro)
 refine rL_loop (σ := List UInt8 × Int × Int) (fun s e H' => H' = H ∧ e 0 = .sl (s.1.map byteA) ∧ e 1 = .i s.2.1 ∧ e 2 = .i bias ∧ e 7 = .i s.2.2 ∧ 0 ≤ s.2.1 ∧ s.2.1 < 1000000000000 ∧ 0 ≤ s.2.2 ∧ s.2.2 + 36 * s.2.1 < 36000000000036 + 36 ∧ (s.1.length : Int) + s.2.1 < 1000000 + 1000000000000 ∧ s.1 ++ Puny.numL s.2.1 s.2.2 bias = b ++ Puny.numL q 36 bias) (fun s => s.2.1.toNat) (b, q, 36) ?_ ?_
 ·refine ⟨rfl, ?_, ?_, ?_, ?_, by simp only; omega, by simp only; omega, by simp only; omega, by simp only; omega, by simp only; omega, rfl⟩ <;> simp (disch := first | assumption | omega) only [go_sem]
 ·rintro ⟨c, q, k⟩ e H' ⟨rfl, g0, g1, g2, g7, i1, i2, i3, i4, i5, i6⟩
  simp only at g0 g1 g2 g7 i1 i2 i3 i4 i5 i6
  repeat' first|simp (disch:=first|omega|assumption|decide) only[go_sem,hm,hz,ht,hr_,g0,g1,g2,g7]|(apply ifP_in<;>intro)
  refine rF_use (thr_w k bias (by omega) (by omega)) ?_
  rintro _ _ ⟨rfl, rfl⟩
  have t1 := Puny.thr_bnd k bias
  rw [Puny.numL] at i6
  generalize Puny.thr k bias = t at *
  have m1 := Int.emod_nonneg (q - t) (by omega : 36 - t ≠ 0)
  have m2 := Int.emod_lt_of_pos (q - t) (by omega : 0 < 36 - t)
  repeat' first|simp (disch:=first|omega|assumption|decide) only[go_sem,hm,hz,ht,hr_,g0,g1,g2,g7]|(apply ifP_in<;>intro)
  ·refine rF_use (ltr_w q (by omega)) ?_
   rintro _ _ ⟨rfl, rfl⟩
   repeat' first|simp (disch:=first|omega|assumption|decide) only[go_sem,hm,hz,ht,hr_,g0,g1,g2,g7]|(apply ifP_in<;>intro)
   rw [dif_pos (by assumption)] at i6
   rw [i6]
  ·refine rF_use (ltr_w _ (by omega)) ?_
   rintro _ _ ⟨rfl, rfl⟩
   have m3 := Puny.div_lt_self' t1.1 t1.2 (show t ≤ q by omega)
   rw [dif_neg (by assumption)] at i6
   repeat' first|simp (disch:=first|omega|assumption|decide) only[go_sem,hm,hz,ht,hr_,g0,g1,g2,g7]|(apply ifP_in<;>intro)
   refine ⟨(c ++ [Puny.ltr (t + (q - t) % (36 - t))], (q - t) / (36 - t), k + 36), ⟨rfl, rfl, rfl, by simp only; omega, by simp only; omega, by simp only; omega, by simp only; omega, by simp only [List.length_append, List.length_singleton]; omega, ?_⟩, by simp only; omega⟩
   rw [← i6]; simp
end Pu
end Go.Proofs
/- Walks through delta. -/
set_option linter.unusedVariables false
set_option linter.unusedSimpArgs false
namespace Go.Proofs
open Go.Lv
namespace Pu
variable {H : Heap}
theorem dgt_bnd (c : UInt8) : 0 ≤ Puny.dgt c ∧ Puny.dgt c ≤ 36 := by
 unfold Puny.dgt
 split
 ·omega
 ·split
  ·omega
  ·split <;> omega
def deltaA (r : Option (Int × Int)) : AV := match r with
 | some (x, e) => .tup [.i x, .i e, .b true]
 | none => .tup [.i 0, .i 0, .b false]
theorem delta_w (s : List UInt8) (a i bias : Int) (hs : s.length < 1000000) (ha : 0 ≤ a ∧ a ≤ s.length) (hi : 0 ≤ i ∧ i ≤ 2147483647) (hb : -1000000 < bias ∧ bias < 1000000) :
  WF Tryz.prog cfg 151 [.str s, .i a, .i i, .i bias] H (fun r H' => r = deltaA (Puny.deltaR (s.drop a.toNat) a i 1 36 bias) ∧ H' = H) := by
 have hm : ∀ d, cfg.muF 151 d = (false) := fun _ => rfl
 have hz : ∀ d, cfg.fzF 151 d = (false) := fun _ => rfl
 have ht : ∀ d, cfg.tkF 151 d = (false) := fun _ => rfl
 have hr_ : ∀ g, cfg.raw g = (g == 152 || g == 118) := fun _ => rfl
 refine rF_fn rfl rfl Tryz.func151 rfl ?_
 repeat' first|simp (disch:=first|omega|assumption|decide) only[go_sem,hm,hz,ht,hr_]|(apply ifP_in<;>intro)
 refine rL_loop (σ := Int × Int × Int × Int) (fun z e H' => H' = H ∧ e 0 = .str s ∧ e 1 = .i z.1 ∧ e 2 = .i z.2.1 ∧ e 3 = .i bias ∧ e 11 = .i z.2.2.1 ∧ e 12 = .i z.2.2.2 ∧ 0 ≤ z.1 ∧ z.1 ≤ s.length ∧ 0 ≤ z.2.1 ∧ z.2.1 ≤ 2147483647 ∧ 1 ≤ z.2.2.1 ∧ z.2.2.1 ≤ 2147483647 ∧ 0 ≤ z.2.2.2 ∧ z.2.2.2 ≤ 36 + 36 * z.1 ∧ Puny.deltaR (s.drop z.1.toNat) z.1 z.2.1 z.2.2.1 z.2.2.2 bias = Puny.deltaR (s.drop a.toNat) a i 1 36 bias) (fun z => s.length - z.1.toNat) (a, i, 1, 36) ?_ ?_
 ·refine ⟨rfl, ?_, ?_, ?_, ?_, ?_, ?_, by simp only; omega, by simp only; omega, by simp only; omega, by simp only; omega, by simp only; omega, by simp only; omega, by simp only; omega, by simp only; omega, rfl⟩ <;> simp (disch := first | assumption | omega) only [go_sem]
 ·rintro ⟨at_, i, w, k⟩ e H' ⟨rfl, g0, g1, g2, g3, g11, g12, i1, i2, i3, i4, i5, i6, i7, i8, i9⟩
  simp only at g0 g1 g2 g3 g11 g12 i1 i2 i3 i4 i5 i6 i7 i8 i9
  rw [← i9]
  clear i9
  repeat' first|simp (disch:=first|omega|assumption|decide) only[go_sem,hm,hz,ht,hr_,g0,g1,g2,g3,g11,g12]|(apply ifP_in<;>intro)
  ·rw [List.drop_of_length_le (by omega)]; rfl
  ·have hlt : at_.toNat < s.length := by omega
   have hdrop : s.drop at_.toNat = ix s at_ :: s.drop (at_ + 1).toNat := by
    rw [List.drop_eq_getElem_cons hlt, show (at_ + 1).toNat = at_.toNat + 1 by omega]
    simp [ix, xgD, xgE hlt]
   rw [hdrop]
   generalize ix s at_ = c
   refine rF_use (dgt_w c) ?_
   rintro _ _ ⟨rfl, rfl⟩
   have d1 := dgt_bnd c
   rw [Puny.deltaR]
   generalize Puny.dgt c = d at *
   have q1 : 0 ≤ (2147483647 - i) / w := Int.ediv_nonneg (by omega) (by omega)
   have q2 : (2147483647 - i) / w ≤ 2147483647 - i := Int.ediv_le_self _ (by omega)
   repeat' first|simp (disch:=first|omega|assumption|decide) only[go_sem,hm,hz,ht,hr_,g0,g1,g2,g3,g11,g12]|(apply ifP_in<;>intro)
   ·rw [if_pos (by omega)]; rfl
   ·rename_i hd1 hd2 _
    refine rF_use (thr_w k bias (by omega) (by omega)) ?_
    rintro _ _ ⟨rfl, rfl⟩
    have t1 := Puny.thr_bnd k bias
    rw [if_neg (by omega)]
    generalize Puny.thr k bias = t at *
    have q3 : d * w ≤ 2147483647 - i := Int.le_trans (Int.mul_le_mul_of_nonneg_right (by omega : d ≤ (2147483647 - i) / w) (by omega)) (Int.ediv_mul_le _ (by omega))
    have q4 : 0 ≤ d * w := Int.mul_nonneg (by omega) (by omega)
    have q5 : 0 ≤ 2147483647 / (36 - t) := Int.ediv_nonneg (by omega) (by omega)
    have q6 : 2147483647 / (36 - t) ≤ 2147483647 := Int.ediv_le_self _ (by omega)
    repeat' first|simp (disch:=first|omega|assumption|decide) only[go_sem,hm,hz,ht,hr_,g0,g1,g2,g3,g11,g12]|(apply ifP_in<;>intro)
    ·rw [if_pos (by assumption)]; rfl
    ·rw [if_neg (by assumption), if_pos (by assumption)]; rfl
    ·rw [if_neg (by assumption), if_neg (by assumption)]
     have q7 : w * (36 - t) ≤ 2147483647 := Int.le_trans (Int.mul_le_mul_of_nonneg_right (by omega : w ≤ 2147483647 / (36 - t)) (by omega)) (Int.ediv_mul_le _ (by omega))
     have q8 : 1 * 1 ≤ w * (36 - t) := Int.mul_le_mul i5 (by omega) (by omega) (by omega)
     repeat' first|simp (disch:=first|omega|assumption|decide) only[go_sem,hm,hz,ht,hr_,g0,g1,g2,g3,g11,g12]|(apply ifP_in<;>intro)
     exact ⟨(at_ + 1, i + d * w, w * (36 - t), k + 36), ⟨rfl, rfl, rfl, rfl, by simp only; omega, by simp only; omega, by simp only; omega, by simp only; omega, by simp only; omega, by simp only; omega, by simp only; omega, by simp only; omega, rfl⟩, by simp only; omega⟩
   ·rw [if_pos (by omega)]; rfl
end Pu
end Go.Proofs
/- Walks through the search for a byte from behind. -/
set_option linter.unusedVariables false
set_option linter.unusedSimpArgs false
namespace Go.Proofs
open Go.Lv
namespace Pu
variable {H : Heap}
theorem ix_getD (s : List UInt8) (n : Nat) : ix s ((n : Int)) = s.getD n 0 := by simp [ix]; rfl
theorem lastStr_w (s : List UInt8) (c : UInt8) (hs : s.length < 1000000) : WF Tryz.prog cfg 161 [.str s, byteA c] H (fun r H' => r = .i (Puny.lastIx s c s.length) ∧ H' = H) := by
 have hm : ∀ d, cfg.muF 161 d = (false) := fun _ => rfl
 have hz : ∀ d, cfg.fzF 161 d = (false) := fun _ => rfl
 have ht : ∀ d, cfg.tkF 161 d = (false) := fun _ => rfl
 have hr_ : ∀ g, cfg.raw g = (g == 152 || g == 118) := fun _ => rfl
 refine rF_fn rfl rfl Tryz.func161 rfl ?_
 repeat' first|simp (disch:=first|omega|assumption|decide) only[go_sem,hm,hz,ht,hr_]|(apply ifP_in<;>intro)
 refine rL_loop (σ := Nat) (fun n e H' => H' = H ∧ e 0 = .str s ∧ e 1 = byteA c ∧ e 5 = .i ((n : Int) - 1) ∧ n ≤ s.length ∧ Puny.lastIx s c n = Puny.lastIx s c s.length) (fun n => n) s.length ?_ ?_
 ·refine ⟨rfl, ?_, ?_, ?_, by omega, rfl⟩ <;> simp (disch := first | assumption | omega) only [go_sem]
 ·rintro n e H' ⟨rfl, g0, g1, g5, i1, i2⟩
  repeat' first|simp (disch:=first|omega|assumption|decide) only[go_sem,hm,hz,ht,hr_,g0,g1,g5]|(apply ifP_in<;>intro)
  ·obtain ⟨m, rfl⟩ : ∃ m, n = m + 1 := ⟨n - 1, by omega⟩
   have he : ix s (((m + 1 : Nat) : Int) - 1) = s.getD m 0 := by rw [show ((m + 1 : Nat) : Int) - 1 = (m : Int) by omega]; exact ix_getD s m
   rw [Puny.lastIx] at i2
   rename_i hq
   rw [he] at hq
   have hq' : s.getD m 0 = c := UInt8.toNat_inj.1 (by omega)
   rw [if_pos hq'] at i2
   rw [← i2]; congr 2; omega
  ·obtain ⟨m, rfl⟩ : ∃ m, n = m + 1 := ⟨n - 1, by omega⟩
   have he : ix s (((m + 1 : Nat) : Int) - 1) = s.getD m 0 := by rw [show ((m + 1 : Nat) : Int) - 1 = (m : Int) by omega]; exact ix_getD s m
   rw [Puny.lastIx] at i2
   rename_i hq
   rw [he] at hq
   have hq' : ¬ s.getD m 0 = c := fun h => hq (by rw [h])
   rw [if_neg hq'] at i2
   exact ⟨m, ⟨by congr 2; omega, by omega, i2⟩, by omega⟩
  ·have : n = 0 := by omega
   subst this
   rw [← i2]; rfl
theorem last_w (s : List UInt8) (c : UInt8) (hs : s.length < 1000000) : WF Tryz.prog cfg 150 [.str s, byteA c] H (fun r H' => r = .i (Puny.lastIx s c s.length) ∧ H' = H) := by
 have hm : ∀ d, cfg.muF 150 d = (false) := fun _ => rfl
 have hz : ∀ d, cfg.fzF 150 d = (false) := fun _ => rfl
 have ht : ∀ d, cfg.tkF 150 d = (false) := fun _ => rfl
 have hr_ : ∀ g, cfg.raw g = (g == 152 || g == 118) := fun _ => rfl
 refine rF_fn rfl rfl Tryz.func150 rfl ?_
 repeat' first|simp (disch:=first|omega|assumption|decide) only[go_sem,hm,hz,ht,hr_]|(apply ifP_in<;>intro)
 refine rF_use (lastStr_w s c hs) ?_
 rintro _ _ ⟨rfl, rfl⟩
 repeat' first|simp (disch:=first|omega|assumption|decide) only[go_sem,hm,hz,ht,hr_]|(apply ifP_in<;>intro)
end Pu
end Go.Proofs
/- Walks through Encode. -/
set_option linter.unusedVariables false
set_option linter.unusedSimpArgs false
namespace Go.Proofs
open Go.Lv
namespace Pu
variable {H : Heap}
theorem ix_mem {l : List Int} {i : Nat} (h : i < l.length) : ix l (i : Int) ∈ l := by
 simp [ix, xgD, xgE h]
theorem plain_take {l : List Int} {i : Nat} (h : i < l.length) : Puny.plain (l.take (i + 1)) = Puny.plain (l.take i) ++ if ix l (i : Int) < 128 then [UInt8.ofNat (ix l (i : Int)).toNat] else [] := by
 rw [List.take_add_one, xgE h]
 have : ix l (i : Int) = l[i] := by simp [ix, xgD, xgE h]
 rw [this]
 unfold Puny.plain
 rw [List.filter_append, List.map_append]
 congr 1
 by_cases hc : l[i] < 128 <;> simp [hc]
theorem all_take {l : List Int} {i : Nat} (h : i < l.length) : (l.take (i + 1)).all Puny.scalar = ((l.take i).all Puny.scalar && Puny.scalar (ix l (i : Int))) := by
 rw [List.take_add_one, xgE h]
 have : ix l (i : Int) = l[i] := by simp [ix, xgD, xgE h]
 rw [this, List.all_append]; simp
theorem encode_b (l : List Int) (hl : l.length ≤ 140737488355328) : WF Tryz.prog cfg 94 [.sl (l.map fun n => AV.v (.int .i64 n))] H (fun r H' => r = .tup [.str (Puny.encode l).1, .i (Puny.encode l).2] ∧ H' = H ∧ (Puny.encode l).1.length ≤ 3100) := by
 have hm : ∀ d, cfg.muF 94 d = (false) := fun _ => rfl
 have hz : ∀ d, cfg.fzF 94 d = (false) := fun _ => rfl
 have ht : ∀ d, cfg.tkF 94 d = (false) := fun _ => rfl
 have hr_ : ∀ g, cfg.raw g = (g == 152 || g == 118) := fun _ => rfl
 refine rF_fn rfl rfl Tryz.func94 rfl ?_
 repeat' first|simp (disch:=first|omega|assumption|decide) only[go_sem,hm,hz,ht,hr_]|(apply ifP_in<;>intro)
 ·rw [Puny.encode, if_pos (by omega)]
  exact ⟨rfl, by simp⟩
 have hl : l.length ≤ 256 := by omega
 refine rL_loop (σ := Nat) (fun i e H' => H' = H ∧ e 0 = .sl (l.map fun n => AV.v (.int .i64 n)) ∧ e 18 = .sl (l.map fun n => AV.v (.int .i64 n)) ∧ e 19 = .i l.length ∧ e 20 = .i i ∧ i ≤ l.length ∧ e 4 = .sl ((Puny.plain (l.take i)).map byteA) ∧ (l.take i).all Puny.scalar = true) (fun i => l.length - i) 0 ?_ ?_
 ·refine ⟨rfl, ?_, ?_, ?_, ?_, by omega, ?_, rfl⟩ <;> simp (disch := first | assumption | omega) only [go_sem] <;> rfl
 ·rintro i e H ⟨rfl, g0, g18, g19, g20, gi, g4, ga⟩
  have hpl : (Puny.plain (l.take i)).length ≤ 256 := by
   unfold Puny.plain
   rw [List.length_map]
   have := List.length_filter_le (fun c : Int => decide (c < 128)) (l.take i)
   simp at this; omega
  repeat' first|simp (disch:=first|omega|assumption|decide) only[go_sem,hm,hz,ht,hr_,g0,g18,g19,g20,g4]|(apply ifP_in<;>intro)
  ·have hlt : i < l.length := by omega
   refine rF_use (scalar_w _) ?_
   rintro _ H ⟨rfl, rfl⟩
   have hap := plain_take hlt
   have haa := all_take hlt
   cases hsc : Puny.scalar (ix l (i : Int)) with
   | false =>
    repeat' first|simp (disch:=first|omega|assumption|decide) only[go_sem,hm,hz,ht,hr_,g0,g18,g19,g20,g4]|(apply ifP_in<;>intro)
    have : Puny.encode l = ([], 1) := by
     rw [Puny.encode, if_neg (by omega)]
     unfold Puny.enc
     rw [if_neg]
     intro h
     rw [List.all_eq_true] at h
     have := h _ (ix_mem hlt)
     rw [hsc] at this; cases this
    rw [this]
    exact ⟨rfl, by simp⟩
   | true =>
    have hs := Puny.scalar_bnd hsc
    rw [ga, hsc] at haa
    repeat' first|simp (disch:=first|omega|assumption|decide) only[go_sem,hm,hz,ht,hr_,g0,g18,g19,g20,g4]|(apply ifP_in<;>intro)
    ·rename_i hc
     rw [if_pos hc] at hap
     refine ⟨i + 1, ⟨by simp, by omega, ?_, haa⟩, by omega⟩
     rw [hap]
    ·rename_i hc
     rw [if_neg hc, List.append_nil] at hap
     refine ⟨i + 1, ⟨by simp, by omega, ?_, haa⟩, by omega⟩
     rw [hap]
  all_goals
   obtain rfl : i = l.length := by omega
   simp only [List.take_length] at *
   have henc : Puny.encode l = (Puny.eLoop l (Puny.plain l).length l.length 128 (Puny.dash (Puny.plain l), 0, 72, (Puny.plain l).length), 0) := by
    rw [Puny.encode, if_neg (by omega), Puny.enc, if_pos ga]
   have hall : ∀ c ∈ l, c ≤ 1114111 := fun c hc => (Puny.scalar_bnd (List.all_eq_true.1 ga c hc)).2
   have hd : (Puny.dash (Puny.plain l)).length ≤ 257 := by unfold Puny.dash; split <;> first | omega | (simp; omega)
   have hd1 : (if 0 < (Puny.plain l).length then Puny.plain l ++ [45] else Puny.plain l) = Puny.dash (Puny.plain l) := by
    unfold Puny.dash; split <;> split <;> first | rfl | omega
   have hbas := Puny.plain_len l
   rw [henc]
   clear henc g18 g19 g20 gi ga
   generalize Puny.plain l = p at *
   generalize hdd : Puny.dash p = p0 at *
   generalize hT : Puny.eLoop l p.length l.length 128 (p0, 0, 72, p.length) = T
   clear hdd
   let I : Nat × Int × (List UInt8 × Int × Int × Int) → Env → Heap → Prop := fun z e H'' => H'' = H ∧ e 0 = .sl (l.map fun n => AV.v (.int .i64 n)) ∧ e 7 = .i p.length ∧ e 9 = .i z.2.1 ∧ e 4 = .sl (z.2.2.1.map byteA) ∧ e 10 = .i z.2.2.2.1 ∧ e 11 = .i z.2.2.2.2.1 ∧ e 8 = .i z.2.2.2.2.2 ∧ 128 ≤ z.2.1 ∧ z.2.1 ≤ 1114112 ∧ 0 ≤ z.2.2.2.1 ∧ z.2.2.2.1 ≤ 257 ∧ 0 ≤ z.2.2.2.2.1 ∧ z.2.2.2.2.1 ≤ 400 ∧ z.2.2.2.2.2 = (l.countP fun c => decide (c < z.2.1)) ∧ (z.2.2.1.length : Int) ≤ 257 + 11 * z.2.2.2.2.2 ∧ (l.length : Int) ≤ z.1 + z.2.2.2.2.2 ∧ Puny.eLoop l p.length z.1 z.2.1 z.2.2 = T
   all_goals
    refine rL_loop I (fun z => z.1) (l.length, 128, p0, 0, 72, (p.length : Int)) ?_ ?_
    ·refine ⟨rfl, ?_, ?_, ?_, ?_, ?_, ?_, ?_, (by first | omega | (simp only; omega) | (simp; done) | (simp; omega)), (by first | omega | (simp only; omega) | (simp; done) | (simp; omega)), (by first | omega | (simp only; omega) | (simp; done) | (simp; omega)), (by first | omega | (simp only; omega) | (simp; done) | (simp; omega)), (by first | omega | (simp only; omega) | (simp; done) | (simp; omega)), (by first | omega | (simp only; omega) | (simp; done) | (simp; omega)), by simp only; rw [hbas], (by first | omega | (simp only; omega) | (simp; done) | (simp; omega)), (by first | omega | (simp only; omega) | (simp; done) | (simp; omega)), hT⟩ <;> simp (disch := first | assumption | omega) only [go_sem, g0, g4]
     all_goals (rw [← hd1]; first | (rw [if_pos (by omega)]; rfl) | (rw [if_neg (by omega)]))
    ·clear g0 g4
     rintro ⟨k, n, b, delta, bias, done⟩ e H ⟨rfl, g0, g7, g9, g4, g10, g11, g8, i1, i2, i3, i4, i5, i6, i7, i8, i9, i10⟩
     simp only at g0 g7 g9 g4 g10 g11 g8 i1 i2 i3 i4 i5 i6 i7 i8 i9 i10
     have hcl : (l.countP fun c => decide (c < n)) ≤ l.length := List.countP_le_length
     repeat' first|simp (disch:=first|omega|assumption|decide) only[go_sem,hm,hz,ht,hr_,g0,g7,g9,g4,g10,g11,g8]|(apply ifP_in<;>intro)
     ·have hlt : (l.countP fun c => decide (c < n)) < l.length := by omega
      refine rF_use (next_w l n (by omega)) ?_
      rintro _ H ⟨rfl, rfl⟩
      have hnx := Puny.nxt_spec (Puny.count_lt hlt) hall
      have hsp := Puny.countP_split l n (Puny.nxt l n) hnx.2.1 hnx.2.2.2
      have hpos : 0 < l.countP fun c => decide (c = Puny.nxt l n) := List.countP_pos_iff.2 ⟨_, hnx.1, by simp⟩
      obtain ⟨k, rfl⟩ : ∃ k', k = k' + 1 := ⟨k - 1, by omega⟩
      rw [Puny.eLoop, if_pos (by omega)] at i10
      unfold Puny.eRound at i10
      simp only at i10
      generalize Puny.nxt l n = m at *
      have hm1 : (m - n) * (done + 1) ≤ 1114112 * 257 := Int.mul_le_mul (by omega) (by omega) (by omega) (by omega)
      have hm2 : 0 ≤ (m - n) * (done + 1) := Int.mul_nonneg (by omega) (by omega)
      have hps := Puny.pass_bnd m p.length (1114112 * 257 + 1000) (by omega)
      generalize hs0 : (b, delta + (m - n) * (done + 1), bias, done) = s0 at *
      have hs1 : s0.1 = b := by rw [← hs0]
      have hs1' : s0.1.length = b.length := by rw [hs1]
      have hs2 : s0.2.1 = delta + (m - n) * (done + 1) := by rw [← hs0]
      have hs3 : s0.2.2.1 = bias := by rw [← hs0]
      have hs4 : s0.2.2.2 = done := by rw [← hs0]
      repeat' first|simp (disch:=first|omega|assumption|decide) only[go_sem,hm,hz,ht,hr_,g0,g7,g9,g4,g10,g11,g8]|(apply ifP_in<;>intro)
      refine rL_loop (σ := Nat) (fun i e K => K = H ∧ e 0 = .sl (l.map fun n => AV.v (.int .i64 n)) ∧ e 7 = .i p.length ∧ e 9 = .i m ∧ e 61 = .sl (l.map fun n => AV.v (.int .i64 n)) ∧ e 62 = .i l.length ∧ e 63 = .i i ∧ i ≤ l.length ∧
       e 4 = .sl (((l.take i).foldl (Puny.eStep m p.length) s0).1.map byteA) ∧ e 10 = .i ((l.take i).foldl (Puny.eStep m p.length) s0).2.1 ∧ e 11 = .i ((l.take i).foldl (Puny.eStep m p.length) s0).2.2.1 ∧ e 8 = .i ((l.take i).foldl (Puny.eStep m p.length) s0).2.2.2) (fun i => l.length - i) 0 ?_ ?_
      ·refine ⟨rfl, ?_, ?_, ?_, ?_, ?_, ?_, by omega, ?_, ?_, ?_, ?_⟩ <;> simp (disch := first | assumption | omega) only [go_sem, g0, g7, g9, g4, g10, g11, g8, List.take_zero, List.foldl_nil, hs1, hs2, hs3, hs4, Int.ofNat_zero]
      ·clear g0 g7 g9 g4 g10 g11 g8
       rintro i e H ⟨rfl, g0, g7, g9, g61, g62, g63, gi, g4, g10, g11, g8⟩
       have hb := hps (l.take i) s0 (by omega) (by rw [List.length_take]; omega) (by omega) (by omega) (by omega) (by omega)
       simp only at hb
       rw [List.length_take] at hb
       have hci : ((l.take i).countP fun c => decide (c = m)) ≤ l.length := by
        have := List.countP_le_length (p := fun c => decide (c = m)) (l := l.take i)
        rw [List.length_take] at this; omega
       have hnext : ∀ h : i < l.length, (l.take (i + 1)).foldl (Puny.eStep m p.length) s0 = Puny.eStep m p.length ((l.take i).foldl (Puny.eStep m p.length) s0) (ix l (i : Int)) := fun h => foldl_take _ _ _ _ h
       by_cases hil : i < l.length
       ·have hnext := hnext hil
        generalize (l.take i).foldl (Puny.eStep m p.length) s0 = r at *
        obtain ⟨rb, rd, rbi, rdo⟩ := r
        simp only at g4 g10 g11 g8 hb
        repeat' first|simp (disch:=first|omega|assumption|decide) only[go_sem,hm,hz,ht,hr_,g0,g7,g9,g61,g62,g63,g4,g10,g11,g8]|(apply ifP_in<;>intro)
        ·rename_i hlt2
         refine ⟨i + 1, ⟨rfl, by omega, ?_⟩, by omega⟩
         rw [hnext, Puny.eStep, if_pos hlt2]
         exact ⟨rfl, rfl, rfl, rfl⟩
        ·rename_i hlt2 heq
         rw [Puny.eStep, if_neg hlt2, if_pos heq] at hnext
         refine rF_use (number_w rb rd rbi (by omega) (by omega) (by omega)) ?_
         rintro _ H ⟨rfl, rfl⟩
         repeat' first|simp (disch:=first|omega|assumption|decide) only[go_sem,hm,hz,ht,hr_,g0,g7,g9,g61,g62,g63,g4,g10,g11,g8]|(apply ifP_in<;>intro)
         refine rF_use (adapt_w rd (rdo + 1) (decide (rdo = p.length)) (by omega) (by omega)) ?_
         rintro _ H ⟨rfl, rfl⟩
         repeat' first|simp (disch:=first|omega|assumption|decide) only[go_sem,hm,hz,ht,hr_,g0,g7,g9,g61,g62,g63,g4,g10,g11,g8]|(apply ifP_in<;>intro)
         refine ⟨i + 1, ⟨rfl, by omega, ?_⟩, by omega⟩
         rw [hnext]
         exact ⟨rfl, rfl, rfl, rfl⟩
        ·rename_i hlt2 hne
         rw [Puny.eStep, if_neg hlt2, if_neg hne] at hnext
         refine ⟨i + 1, ⟨rfl, by omega, ?_⟩, by omega⟩
         rw [hnext]
         exact ⟨rfl, rfl, rfl, rfl⟩
       ·obtain rfl : i = l.length := by omega
        rw [List.take_length] at *
        generalize l.foldl (Puny.eStep m p.length) s0 = r at *
        obtain ⟨rb, rd, rbi, rdo⟩ := r
        simp only at g4 g10 g11 g8 hb i10
        repeat' first|simp (disch:=first|omega|assumption|decide) only[go_sem,hm,hz,ht,hr_,g0,g7,g9,g61,g62,g63,g4,g10,g11,g8]|(apply ifP_in<;>intro)
        refine ⟨(k, m + 1, rb, rd + 1, rbi, rdo), ⟨rfl, (by simp (disch := first | omega | assumption | decide) only [go_sem, *] <;> rfl), (by simp (disch := first | omega | assumption | decide) only [go_sem, *] <;> rfl), (by simp (disch := first | omega | assumption | decide) only [go_sem, *] <;> rfl), (by simp (disch := first | omega | assumption | decide) only [go_sem, *] <;> rfl), (by simp (disch := first | omega | assumption | decide) only [go_sem, *] <;> rfl), (by simp (disch := first | omega | assumption | decide) only [go_sem, *] <;> rfl), (by simp (disch := first | omega | assumption | decide) only [go_sem, *] <;> rfl), (by first | omega | (simp only; omega) | (simp; done) | (simp; omega)), (by first | omega | (simp only; omega) | (simp; done) | (simp; omega)), (by first | omega | (simp only; omega) | (simp; done) | (simp; omega)), (by first | omega | (simp only; omega) | (simp; done) | (simp; omega)), (by first | omega | (simp only; omega) | (simp; done) | (simp; omega)), (by first | omega | (simp only; omega) | (simp; done) | (simp; omega)), ?_, (by first | omega | (simp only; omega) | (simp; done) | (simp; omega)), ?_, i10⟩, (by first | omega | (simp only; omega) | (simp; done) | (simp; omega))⟩
        ·simp only; omega
        ·simp only; omega
     ·have hend : l.length ≤ done := by omega
      have : b = T := by
       rw [← i10]
       cases k with
       | zero => rfl
       | succ k => rw [Puny.eLoop, if_neg (by omega)]
      rw [this] at i8 ⊢
      exact ⟨rfl, by omega⟩
theorem encode_w (l : List Int) (hl : l.length ≤ 140737488355328) : WF Tryz.prog cfg 94 [.sl (l.map fun n => AV.v (.int .i64 n))] H (fun r H' => r = .tup [.str (Puny.encode l).1, .i (Puny.encode l).2] ∧ H' = H) := (encode_b l hl).mono fun r H' h => ⟨h.1, h.2.1⟩
theorem encode_len (l : List Int) : (Puny.encode l).1.length ≤ 3100 := by
 by_cases hl : 256 < l.length
 ·rw [Puny.encode, if_pos hl]; simp
 ·obtain ⟨_, _, _, _, h⟩ := encode_b (H := []) l (by omega)
  exact h.2.2
end Pu
end Go.Proofs
/- Walks through the document's writing of signs by few letters. -/
set_option linter.unusedVariables false
set_option linter.unusedSimpArgs false
namespace Go.Proofs
open Go.Lv
namespace Pu
variable {H : Heap}
end Pu
end Go.Proofs
/- Walks through Decode. -/
set_option linter.unusedVariables false
set_option linter.unusedSimpArgs false
namespace Go.Proofs
open Go.Lv
namespace Pu
variable {H : Heap}
abbrev iA : Int → AV := fun n => AV.v (.int .i64 n)
theorem insert_w {H0 : Heap} {a : AV} {xs : List Int} (hr : RowOf iA H0.length H a xs) (hp : H0 <+: H) (i x : Int) (h0 : 0 ≤ i) (h1 : i ≤ xs.length) (hl : xs.length < 1000000) :
  WF Tryz.prog cfg 152 [a, .i i, .sl ([x].map iA)] H (fun r H' => RowOf iA H0.length H' r (xs.take i.toNat ++ x :: xs.drop i.toNat) ∧ H0 <+: H') := by
 rcases hr with ⟨rfl, rfl⟩ | ⟨j, hj, rfl, hH, hx⟩
 ·have : i = 0 := by simp at h1; omega
  subst this
  refine WF.ext (g := fun args H => insertA H args) rfl (r := .mr H.length 0 (0 + 1) 1 false) (H' := H ++ [[iA x]]) ?_ ?_
  ·show insertA H [nilA, .i 0, .sl [iA x]] = _
   unfold insertA nilA
   simp only
   rw [if_pos]
   ·rfl
   ·refine ⟨by simp, by simp, ?_⟩
    intro b hb
    simp at hb; subst hb; exact ⟨rfl, rfl⟩
  ·refine ⟨.inr ⟨H.length, pre_len hp, rfl, ?_, by simp⟩, pre_add hp _⟩
   rw [xgR (by omega)]; simp
 ·refine WF.ext (g := fun args H => insertA H args) rfl (r := .mr H.length 0 (xs.length + 1) 1 false) (H' := H.set j [] ++ [(xs.take i.toNat ++ x :: xs.drop i.toNat).map iA]) ?_ ?_
  ·show insertA H [.mr j 0 xs.length 1 false, .i i, .sl [iA x]] = _
   unfold insertA
   simp only [hH, Option.bind_some]
   rw [if_pos]
   ·have e : (xs.map iA).take xs.length = xs.map iA := List.take_of_length_le (by simp)
    rw [e]; simp [AV.cells]
   ·refine ⟨h0, h1, by simp, by intro h; simp at h; rw [h] at hx; simp at hx, all_cell1 xs, by simp, by simp; omega, ?_⟩
    intro b hb
    simp at hb; subst hb; exact ⟨rfl, rfl⟩
  ·refine ⟨.inr ⟨H.length, pre_len hp, ?_, ?_, by simp; omega⟩, pre_set hp hj _ _⟩
   ·congr 1
    simp; omega
   ·rw [get_end]
theorem dec_all {s : List UInt8} {i : Nat} (h : i < s.length) (h1 : 128 ≤ ((ix s (i : Int)).toNat : Int)) : Puny.dec s = none := by
 unfold Puny.dec
 rw [if_neg]
 intro ha
 rw [List.all_eq_true] at ha
 have hm : ix s (i : Int) ∈ s := by simp [ix, xgD, xgE h]
 have := ha _ hm
 simp at this
 omega
theorem bytes_take {s : List UInt8} {i : Nat} (h : i < s.length) : (s.take (i + 1)).map (fun c => (c.toNat : Int)) = (s.take i).map (fun c => (c.toNat : Int)) ++ [((ix s (i : Int)).toNat : Int)] := by
 rw [List.take_add_one, xgE h, List.map_append]
 simp [ix, xgD, xgE h]
theorem decode_w (s : List UInt8) (hs : s.length ≤ 140737488355328) : WF Tryz.prog cfg 126 [.str s] H (fun r H' => r = .tup [.sl ((Puny.decode s).1.map iA), .i (Puny.decode s).2] ∧ H <+: H') := by
 have hm : ∀ d, cfg.muF 126 d = (d == 5 || d == 43) := fun _ => rfl
 have hz : ∀ d, cfg.fzF 126 d = (d == 2) := fun _ => rfl
 have ht : ∀ d, cfg.tkF 126 d = (false) := fun _ => rfl
 have hr_ : ∀ g, cfg.raw g = (g == 152 || g == 118) := fun _ => rfl
 refine rF_fn rfl rfl Tryz.func126 rfl ?_
 repeat' first|simp (disch:=first|omega|assumption|decide) only[go_sem,hm,hz,ht,hr_]|(apply ifP_in<;>intro)
 ·rw [Puny.decode, if_pos (by omega)]
  exact ⟨rfl, List.prefix_refl _⟩
 have hs : s.length ≤ 4000 := by omega
 have hbad : Puny.dec s = none → Puny.decode s = ([], 4) := fun h => by rw [Puny.decode, if_neg (by omega), h]
 have hgood : ∀ l, Puny.dec s = some l → Puny.decode s = (l, 0) := fun l h => by rw [Puny.decode, if_neg (by omega), h]
 refine rL_loop (σ := Nat) (fun i e H' => H' = H ∧ e 0 = .str s ∧ e 20 = .i s.length ∧ e 21 = .i i ∧ i ≤ s.length ∧ ((s.take i).all fun c => decide (c.toNat < 128)) = true) (fun i => s.length - i) 0 ?_ ?_
 ·exact ⟨rfl, (by simp (disch := first | omega | assumption | decide) only [go_sem, *] <;> rfl), (by simp (disch := first | omega | assumption | decide) only [go_sem, *] <;> rfl), (by simp (disch := first | omega | assumption | decide) only [go_sem, *] <;> rfl), by omega, rfl⟩
 ·rintro i e H ⟨rfl, g0, g20, g21, gi, ga⟩
  by_cases hil : i < s.length
  ·repeat' first|simp (disch:=first|omega|assumption|decide) only[go_sem,hm,hz,ht,hr_,g0,g20,g21]|(apply ifP_in<;>intro)
   ·rw [hbad (dec_all hil (by assumption))]
    exact ⟨rfl, List.prefix_refl _⟩
   ·rename_i hlt
    refine ⟨i + 1, ⟨by simp, by omega, ?_⟩, by omega⟩
    rw [List.take_add_one, List.all_append, ga, xgE hil]
    have : ix s (i : Int) = s[i] := by simp [ix, xgD, xgE hil]
    rw [this] at hlt
    simp; omega
  ·obtain rfl : i = s.length := by omega
   rw [List.take_length] at ga
   repeat' first|simp (disch:=first|omega|assumption|decide) only[go_sem,hm,hz,ht,hr_,g0,g20,g21]|(apply ifP_in<;>intro)
   refine rF_use (last_w s 45 (by omega)) ?_
   rintro _ H ⟨rfl, rfl⟩
   have hcb := Puny.lastIx_bnd s 45 s.length
   have hdec : Puny.dec s = Puny.decL (s.length + 1) (if 0 < Puny.cutAt s then s.drop (Puny.cutAt s + 1).toNat else s) ((s.take (Puny.cutAt s).toNat).map fun c => (c.toNat : Int)) 128 0 72 := by
    unfold Puny.dec; rw [if_pos ga]
   unfold Puny.cutAt at hdec
   generalize Puny.lastIx s 45 s.length = cut at *
   have hpre : H <+: H := List.prefix_refl _
   repeat' first|simp (disch:=first|omega|assumption|decide) only[go_sem,hm,hz,ht,hr_,g0,g20,g21]|(apply ifP_in<;>intro)
   ·rename_i hcut
    rw [if_pos hcut] at hdec
    refine rL_loop (σ := Nat) (fun i e H' => H <+: H' ∧ e 0 = .str s ∧ e 6 = .i cut ∧ e 33 = .i cut ∧ e 34 = .i i ∧ i ≤ cut ∧ RowOf iA H.length H' (e 5) ((s.take i).map fun c => (c.toNat : Int))) (fun i => cut.toNat - i) 0 ?_ ?_
    ·exact ⟨hpre, (by simp (disch := first | omega | assumption | decide) only [go_sem, *] <;> rfl), (by simp (disch := first | omega | assumption | decide) only [go_sem, *] <;> rfl), (by simp (disch := first | omega | assumption | decide) only [go_sem, *] <;> rfl), (by simp (disch := first | omega | assumption | decide) only [go_sem, *] <;> rfl), by omega, .inl ⟨(by simp (disch := first | omega | assumption | decide) only [go_sem, *] <;> rfl), rfl⟩⟩
    ·clear hpre g0 g20 g21
     rintro i e K ⟨hp, g0, g6, g33, g34, gi, hr⟩
     generalize g5 : e 5 = a at *
     by_cases hil : i < cut
     ·have hlt : i < s.length := by omega
      repeat' first|simp (disch:=first|omega|assumption|decide) only[go_sem,hm,hz,ht,hr_,g0,g5,g6,g33,g34]|(apply ifP_in<;>intro)
      have hx := (ix s (i : Int)).toNat_lt
      refine bind_append (f := iA) (ys := [((ix s (i : Int)).toNat : Int)]) hr hp ?_ (by simp) ?_ ?_
      ·rfl
      ·simp; omega
      intro a' K hr' hp'
      repeat' first|simp (disch:=first|omega|assumption|decide) only[go_sem,hm,hz,ht,hr_,g0,g5,g6,g33,g34]|(apply ifP_in<;>intro)
      refine ⟨i + 1, ⟨hp', rfl, by omega, ?_⟩, by omega⟩
      rw [bytes_take hlt]
      exact hr'
     ·obtain rfl : cut = (i : Int) := by omega
      repeat' first|simp (disch:=first|omega|assumption|decide) only[go_sem,hm,hz,ht,hr_,g0,g5,g6,g33,g34]|(apply ifP_in<;>intro)
      have hl0 : (s.take i).length ≤ s.length := by simp; omega
      have hr0 : (s.drop (i + 1 : Int).toNat).length ≤ s.length := by simp
      rw [show ((i : Int)).toNat = i from rfl] at hdec
      generalize s.drop (i + 1 : Int).toNat = r0 at *
      rw [← List.length_map (f := fun c : UInt8 => (c.toNat : Int))] at hl0
      generalize (s.take i).map (fun c => (c.toNat : Int)) = l0 at *
      refine rL_loop (σ := Nat × Nat × List Int × Int × Int × Int) (fun z e H' => H <+: H' ∧ e 0 = .str r0 ∧ e 11 = .i z.2.1 ∧ z.2.1 ≤ r0.length ∧ e 8 = .i z.2.2.2.1 ∧ e 9 = .i z.2.2.2.2.1 ∧ e 10 = .i z.2.2.2.2.2 ∧ RowOf iA H.length H' (e 5) z.2.2.1 ∧ 0 ≤ z.2.2.2.1 ∧ z.2.2.2.1 ≤ 1114111 ∧ 0 ≤ z.2.2.2.2.1 ∧ z.2.2.2.2.1 ≤ 2147483647 ∧ 0 ≤ z.2.2.2.2.2 ∧ z.2.2.2.2.2 ≤ 400 ∧ z.2.2.1.length ≤ 4000 ∧ r0.length + 1 ≤ z.1 + z.2.1 ∧ Puny.decL z.1 (r0.drop z.2.1) z.2.2.1 z.2.2.2.1 z.2.2.2.2.1 z.2.2.2.2.2 = Puny.dec s) (fun z => r0.length - z.2.1) (s.length + 1, 0, l0, 128, 0, 72) ?_ ?_
      ·refine ⟨hp, (by simp (disch := first | omega | assumption | decide) only [go_sem, *] <;> rfl), (by simp (disch := first | omega | assumption | decide) only [go_sem, *] <;> rfl), (by first | omega | (simp only; omega) | (simp; done) | (simp; omega)), (by simp (disch := first | omega | assumption | decide) only [go_sem, *] <;> rfl), (by simp (disch := first | omega | assumption | decide) only [go_sem, *] <;> rfl), (by simp (disch := first | omega | assumption | decide) only [go_sem, *] <;> rfl), ?_, (by first | omega | (simp only; omega) | (simp; done) | (simp; omega)), (by first | omega | (simp only; omega) | (simp; done) | (simp; omega)), (by first | omega | (simp only; omega) | (simp; done) | (simp; omega)), (by first | omega | (simp only; omega) | (simp; done) | (simp; omega)), (by first | omega | (simp only; omega) | (simp; done) | (simp; omega)), (by first | omega | (simp only; omega) | (simp; done) | (simp; omega)), (by first | omega | (simp only; omega) | (simp; done) | (simp; omega)), (by first | omega | (simp only; omega) | (simp; done) | (simp; omega)), ?_⟩
       ·simp (disch := first | omega | assumption | decide) only [go_sem, *]
       ·simp only [List.drop_zero]; exact hdec.symm
      ·clear g0 hr hp hdec
       rintro ⟨k, at_, l, n, i, bias⟩ e K ⟨hp, g0, g11, j1, g8, g9, g10, hr, j2, j3, j4, j5, j6, j7, j8, j9, j10⟩
       simp only at g0 g11 j1 g8 g9 g10 hr j2 j3 j4 j5 j6 j7 j8 j9 j10
       generalize g5 : e 5 = a at *
       have hlen : ∀ el, lenD (some (.slice el)) (owA a) = some (.v (.int .i64 l.length)) := fun el => hr.len
       obtain ⟨k, rfl⟩ : ∃ k', k = k' + 1 := ⟨k - 1, by omega⟩
       rw [Puny.decL] at j10
       repeat' first|simp (disch:=first|omega|assumption|decide) only[go_sem,hm,hz,ht,hr_,g0,g5,g8,g9,g10,g11,hlen]|(apply ifP_in<;>intro)
       ·have hat : at_ < r0.length := by omega
        refine rF_use (delta_w r0 at_ i bias (by omega) (by omega) (by omega) (by omega)) ?_
        rintro _ K ⟨rfl, rfl⟩
        have hsh := Puny.deltaR_shift bias (r0.drop at_) 0 at_ i 1 36
        rw [Int.zero_add] at hsh
        rw [Int.toNat_natCast, hsh]
        have hbn := Puny.deltaR_bnd bias (r0.drop at_) 0 i 1 36
        rw [if_neg (by omega), if_neg (by simp; omega)] at j10
        cases hd : Puny.deltaR (r0.drop at_) 0 i 1 36 bias with
        | none =>
         rw [hd] at j10
         simp only [Option.map_none, deltaA]
         repeat' first|simp (disch:=first|omega|assumption|decide) only[go_sem,hm,hz,ht,hr_,g0,g5,g8,g9,g10,g11,hlen]|(apply ifP_in<;>intro)
         rw [hbad j10.symm]
         exact ⟨rfl, hp⟩
        | some q =>
         obtain ⟨x, e'⟩ := q
         rw [hd] at j10
         simp only at j10
         have hbn := hbn x e' (by omega) (by omega) (by omega) hd
         rw [List.length_drop] at hbn
         simp only [Option.map_some, deltaA]
         repeat' first|simp (disch:=first|omega|assumption|decide) only[go_sem,hm,hz,ht,hr_,g0,g5,g8,g9,g10,g11,hlen]|(apply ifP_in<;>intro)
         refine rF_use (adapt_w (x - i) (l.length + 1) (decide (i = 0)) (by omega) (by omega)) ?_
         rintro _ K ⟨rfl, rfl⟩
         have hab := Puny.adapt_bnd (x - i) (l.length + 1) (decide (i = 0)) (by omega) (by omega) (by omega)
         have hx1 : 0 ≤ x / ((l.length : Int) + 1) := Int.ediv_nonneg (by omega) (by omega)
         have hx2 : x / ((l.length : Int) + 1) ≤ x := Int.ediv_le_self _ (by omega)
         have hx3 : 0 ≤ x % ((l.length : Int) + 1) := Int.emod_nonneg _ (by omega)
         have hx4 : x % ((l.length : Int) + 1) < l.length + 1 := Int.emod_lt_of_pos _ (by omega)
         repeat' first|simp (disch:=first|omega|assumption|decide) only[go_sem,hm,hz,ht,hr_,g0,g5,g8,g9,g10,g11,hlen]|(apply ifP_in<;>intro)
         ·rw [if_pos (by omega)] at j10
          rw [hbad j10.symm]
          exact ⟨rfl, hp⟩
         ·rw [if_neg (by omega)] at j10
          refine rF_use (scalar_w _) ?_
          rintro _ K ⟨rfl, rfl⟩
          cases hsc : Puny.scalar (n + x / ((l.length : Int) + 1)) with
          | false =>
           rw [if_pos hsc] at j10
           repeat' first|simp (disch:=first|omega|assumption|decide) only[go_sem,hm,hz,ht,hr_,g0,g5,g8,g9,g10,g11,hlen]|(apply ifP_in<;>intro)
           rw [hbad j10.symm]
           exact ⟨rfl, hp⟩
          | true =>
           have hsb := Puny.scalar_bnd hsc
           rw [if_neg (by rw [hsc]; simp)] at j10
           repeat' first|simp (disch:=first|omega|assumption|decide) only[go_sem,hm,hz,ht,hr_,g0,g5,g8,g9,g10,g11,hlen]|(apply ifP_in<;>intro)
           refine rF_use (insert_w hr hp (x % ((l.length : Int) + 1)) (n + x / ((l.length : Int) + 1)) (by omega) (by omega) (by omega)) ?_
           rintro a' K' ⟨hr', hp'⟩
           repeat' first|simp (disch:=first|omega|assumption|decide) only[go_sem,hm,hz,ht,hr_,g0,g5,g8,g9,g10,g11,hlen]|(apply ifP_in<;>intro)
           refine ⟨(k, at_ + e'.toNat, _, _, _, _), ⟨hp', ?_, by simp only; omega, rfl, rfl, rfl, hr', (by first | omega | (simp only; omega) | (simp; done) | (simp; omega)), (by first | omega | (simp only; omega) | (simp; done) | (simp; omega)), (by first | omega | (simp only; omega) | (simp; done) | (simp; omega)), (by first | omega | (simp only; omega) | (simp; done) | (simp; omega)), hab.1, hab.2, ?_, (by first | omega | (simp only; omega) | (simp; done) | (simp; omega)), ?_⟩, by simp only; omega⟩
           ·simp only; congr 1; omega
           ·simp only [List.length_append, List.length_take, List.length_cons, List.length_drop]; omega
           ·simp only
            rw [← List.drop_drop]
            exact j10
       ·rw [if_pos (by omega)] at j10
        rw [hbad j10.symm]
        exact ⟨rfl, hp⟩
       ·rw [if_pos (by omega)] at j10
        rw [hbad j10.symm]
        exact ⟨rfl, hp⟩
       ·rw [if_neg (by omega), if_pos (by simp; omega)] at j10
        refine bind_freeze (f := iA) hr hp ?_
        intro K hp
        repeat' first|simp (disch:=first|omega|assumption|decide) only[go_sem,hm,hz,ht,hr_,g0,g5,g8,g9,g10,g11,hlen]|(apply ifP_in<;>intro)
        rw [hgood l j10.symm]
        exact ⟨rfl, hp⟩
   ·rename_i hcut
    rw [if_neg hcut, show cut.toNat = 0 by omega] at hdec
    have hr : RowOf iA H.length H nilA ([] : List Int) := RowOf.nil
    have hp := hpre
    have hdec : Puny.dec s = Puny.decL (s.length + 1) s [] 128 0 72 := hdec
    have hl0 : ([] : List Int).length ≤ s.length := by simp
    have hr0 : s.length ≤ s.length := by omega
    generalize ([] : List Int) = l0 at hr hdec hl0
    have hd2 : ∀ r0, r0 = s → True := fun _ _ => trivial
    refine rL_loop (σ := Nat × Nat × List Int × Int × Int × Int) (fun z e H' => H <+: H' ∧ e 0 = .str s ∧ e 11 = .i z.2.1 ∧ z.2.1 ≤ s.length ∧ e 8 = .i z.2.2.2.1 ∧ e 9 = .i z.2.2.2.2.1 ∧ e 10 = .i z.2.2.2.2.2 ∧ RowOf iA H.length H' (e 5) z.2.2.1 ∧ 0 ≤ z.2.2.2.1 ∧ z.2.2.2.1 ≤ 1114111 ∧ 0 ≤ z.2.2.2.2.1 ∧ z.2.2.2.2.1 ≤ 2147483647 ∧ 0 ≤ z.2.2.2.2.2 ∧ z.2.2.2.2.2 ≤ 400 ∧ z.2.2.1.length ≤ 4000 ∧ s.length + 1 ≤ z.1 + z.2.1 ∧ Puny.decL z.1 (s.drop z.2.1) z.2.2.1 z.2.2.2.1 z.2.2.2.2.1 z.2.2.2.2.2 = Puny.dec s) (fun z => s.length - z.2.1) (s.length + 1, 0, l0, 128, 0, 72) ?_ ?_
    ·refine ⟨hp, (by simp (disch := first | omega | assumption | decide) only [go_sem, *] <;> rfl), (by simp (disch := first | omega | assumption | decide) only [go_sem, *] <;> rfl), (by first | omega | (simp only; omega) | (simp; done) | (simp; omega)), (by simp (disch := first | omega | assumption | decide) only [go_sem, *] <;> rfl), (by simp (disch := first | omega | assumption | decide) only [go_sem, *] <;> rfl), (by simp (disch := first | omega | assumption | decide) only [go_sem, *] <;> rfl), ?_, (by first | omega | (simp only; omega) | (simp; done) | (simp; omega)), (by first | omega | (simp only; omega) | (simp; done) | (simp; omega)), (by first | omega | (simp only; omega) | (simp; done) | (simp; omega)), (by first | omega | (simp only; omega) | (simp; done) | (simp; omega)), (by first | omega | (simp only; omega) | (simp; done) | (simp; omega)), (by first | omega | (simp only; omega) | (simp; done) | (simp; omega)), (by first | omega | (simp only; omega) | (simp; done) | (simp; omega)), (by first | omega | (simp only; omega) | (simp; done) | (simp; omega)), ?_⟩
     ·simp (disch := first | omega | assumption | decide) only [go_sem, *]
     ·simp only [List.drop_zero]; exact hdec.symm
    ·clear g0 hr hp hdec
     rintro ⟨k, at_, l, n, i, bias⟩ e K ⟨hp, g0, g11, j1, g8, g9, g10, hr, j2, j3, j4, j5, j6, j7, j8, j9, j10⟩
     simp only at g0 g11 j1 g8 g9 g10 hr j2 j3 j4 j5 j6 j7 j8 j9 j10
     generalize g5 : e 5 = a at *
     have hlen : ∀ el, lenD (some (.slice el)) (owA a) = some (.v (.int .i64 l.length)) := fun el => hr.len
     obtain ⟨k, rfl⟩ : ∃ k', k = k' + 1 := ⟨k - 1, by omega⟩
     rw [Puny.decL] at j10
     repeat' first|simp (disch:=first|omega|assumption|decide) only[go_sem,hm,hz,ht,hr_,g0,g5,g8,g9,g10,g11,hlen]|(apply ifP_in<;>intro)
     ·have hat : at_ < s.length := by omega
      refine rF_use (delta_w s at_ i bias (by omega) (by omega) (by omega) (by omega)) ?_
      rintro _ K ⟨rfl, rfl⟩
      have hsh := Puny.deltaR_shift bias (s.drop at_) 0 at_ i 1 36
      rw [Int.zero_add] at hsh
      rw [Int.toNat_natCast, hsh]
      have hbn := Puny.deltaR_bnd bias (s.drop at_) 0 i 1 36
      rw [if_neg (by omega), if_neg (by simp; omega)] at j10
      cases hd : Puny.deltaR (s.drop at_) 0 i 1 36 bias with
      | none =>
       rw [hd] at j10
       simp only [Option.map_none, deltaA]
       repeat' first|simp (disch:=first|omega|assumption|decide) only[go_sem,hm,hz,ht,hr_,g0,g5,g8,g9,g10,g11,hlen]|(apply ifP_in<;>intro)
       rw [hbad j10.symm]
       exact ⟨rfl, hp⟩
      | some q =>
       obtain ⟨x, e'⟩ := q
       rw [hd] at j10
       simp only at j10
       have hbn := hbn x e' (by omega) (by omega) (by omega) hd
       rw [List.length_drop] at hbn
       simp only [Option.map_some, deltaA]
       repeat' first|simp (disch:=first|omega|assumption|decide) only[go_sem,hm,hz,ht,hr_,g0,g5,g8,g9,g10,g11,hlen]|(apply ifP_in<;>intro)
       refine rF_use (adapt_w (x - i) (l.length + 1) (decide (i = 0)) (by omega) (by omega)) ?_
       rintro _ K ⟨rfl, rfl⟩
       have hab := Puny.adapt_bnd (x - i) (l.length + 1) (decide (i = 0)) (by omega) (by omega) (by omega)
       have hx1 : 0 ≤ x / ((l.length : Int) + 1) := Int.ediv_nonneg (by omega) (by omega)
       have hx2 : x / ((l.length : Int) + 1) ≤ x := Int.ediv_le_self _ (by omega)
       have hx3 : 0 ≤ x % ((l.length : Int) + 1) := Int.emod_nonneg _ (by omega)
       have hx4 : x % ((l.length : Int) + 1) < l.length + 1 := Int.emod_lt_of_pos _ (by omega)
       repeat' first|simp (disch:=first|omega|assumption|decide) only[go_sem,hm,hz,ht,hr_,g0,g5,g8,g9,g10,g11,hlen]|(apply ifP_in<;>intro)
       ·rw [if_pos (by omega)] at j10
        rw [hbad j10.symm]
        exact ⟨rfl, hp⟩
       ·rw [if_neg (by omega)] at j10
        refine rF_use (scalar_w _) ?_
        rintro _ K ⟨rfl, rfl⟩
        cases hsc : Puny.scalar (n + x / ((l.length : Int) + 1)) with
        | false =>
         rw [if_pos hsc] at j10
         repeat' first|simp (disch:=first|omega|assumption|decide) only[go_sem,hm,hz,ht,hr_,g0,g5,g8,g9,g10,g11,hlen]|(apply ifP_in<;>intro)
         rw [hbad j10.symm]
         exact ⟨rfl, hp⟩
        | true =>
         have hsb := Puny.scalar_bnd hsc
         rw [if_neg (by rw [hsc]; simp)] at j10
         repeat' first|simp (disch:=first|omega|assumption|decide) only[go_sem,hm,hz,ht,hr_,g0,g5,g8,g9,g10,g11,hlen]|(apply ifP_in<;>intro)
         refine rF_use (insert_w hr hp (x % ((l.length : Int) + 1)) (n + x / ((l.length : Int) + 1)) (by omega) (by omega) (by omega)) ?_
         rintro a' K' ⟨hr', hp'⟩
         repeat' first|simp (disch:=first|omega|assumption|decide) only[go_sem,hm,hz,ht,hr_,g0,g5,g8,g9,g10,g11,hlen]|(apply ifP_in<;>intro)
         refine ⟨(k, at_ + e'.toNat, _, _, _, _), ⟨hp', ?_, by simp only; omega, rfl, rfl, rfl, hr', (by first | omega | (simp only; omega) | (simp; done) | (simp; omega)), (by first | omega | (simp only; omega) | (simp; done) | (simp; omega)), (by first | omega | (simp only; omega) | (simp; done) | (simp; omega)), (by first | omega | (simp only; omega) | (simp; done) | (simp; omega)), hab.1, hab.2, ?_, (by first | omega | (simp only; omega) | (simp; done) | (simp; omega)), ?_⟩, by simp only; omega⟩
         ·simp only; congr 1; omega
         ·simp only [List.length_append, List.length_take, List.length_cons, List.length_drop]; omega
         ·simp only
          rw [← List.drop_drop]
          exact j10
     ·rw [if_pos (by omega)] at j10
      rw [hbad j10.symm]
      exact ⟨rfl, hp⟩
     ·rw [if_pos (by omega)] at j10
      rw [hbad j10.symm]
      exact ⟨rfl, hp⟩
     ·rw [if_neg (by omega), if_pos (by simp; omega)] at j10
      refine bind_freeze (f := iA) hr hp ?_
      intro K hp
      repeat' first|simp (disch:=first|omega|assumption|decide) only[go_sem,hm,hz,ht,hr_,g0,g5,g8,g9,g10,g11,hlen]|(apply ifP_in<;>intro)
      rw [hgood l j10.symm]
      exact ⟨rfl, hp⟩
end Pu
end Go.Proofs
/- Walks through the document's reading of signs by few letters. -/
set_option linter.unusedVariables false
set_option linter.unusedSimpArgs false
namespace Go.Proofs
open Go.Lv
namespace Pu
variable {H : Heap}
end Pu
end Go.Proofs
/- The chapter's examples, and signs below 80 alone. -/
set_option linter.unusedVariables false
set_option linter.unusedSimpArgs false
namespace Go.Puny
end Go.Puny
/- Walks through lists held against one another, and the chapter's examples. -/
set_option linter.unusedVariables false
set_option linter.unusedSimpArgs false
namespace Go.Proofs
open Go.Lv
namespace Pu
variable {H : Heap}
end Pu
end Go.Proofs
