/- Walks: the document's texts, labels. -/
import Derived.Test.YtiboedaicjkfnaaGreatDoorIdRb
set_option linter.unusedVariables false
set_option linter.unusedSimpArgs false
namespace Go.Proofs
open Go.Lv
namespace In
open Pu Ut
variable {H : Heap}
theorem sign_r (c : Int) (h0 : 0 ≤ c) (h1 : c ≤ 1114111) : WF Tryz.prog cfg 138 [.i c] H (fun r H' => r = .sl ((Utf.sgn c).map byteA) ∧ H' = H) := by
 have hm : ∀ d, cfg.muF 138 d = (false) := fun _ => rfl
 have hz : ∀ d, cfg.fzF 138 d = (false) := fun _ => rfl
 have ht : ∀ d, cfg.tkF 138 d = (false) := fun _ => rfl
 have hr_ : ∀ g, cfg.raw g = (g == 152 || g == 118) := fun _ => rfl
 refine rF_fn rfl rfl Tryz.func138 rfl ?_
 by_cases hc : c < 128
 ·have hb : AV.v (.int .u8 c) = byteA (UInt8.ofNat c.toNat) := by
   unfold byteA; congr 2; simp [UInt8.toNat_ofNat']; omega
  rw [Utf.sgn_low hc]
  repeat' first|simp (disch:=first|omega|assumption|decide) only[go_sem,hm,hz,ht,hr_]|(apply ifP_in<;>intro)
  rw [hb]
 ·repeat' first|simp (disch:=first|omega|assumption|decide) only[go_sem,hm,hz,ht,hr_,bin_orI,bin_andI]|(apply ifP_in<;>intro)
  all_goals simp only [wrapB, two_map, three_map, four_map]
  all_goals
   unfold Utf.sgn
   repeat' (first | (rw [if_pos (by omega)]) | (rw [if_neg (by omega)]))
theorem sign_re (c : Int) (h0 : 0 ≤ c) (h1 : c ≤ 1114111) {Q : K (AV → Heap → Prop)} : @rF Tryz.prog cfg 138 [.i c] H Q = Q.v (.sl ((Utf.sgn c).map byteA)) H := rF_eq (sign_r c h0 h1)
theorem text_r (l : List Int) (hl : l.length ≤ 100000) : WF Tryz.prog cfg 109 [.sl (l.map iA)] H (fun r H' => r = .str (Utf.text l) ∧ H' = H) := by
 have hm : ∀ d, cfg.muF 109 d = (false) := fun _ => rfl
 have hz : ∀ d, cfg.fzF 109 d = (false) := fun _ => rfl
 have ht : ∀ d, cfg.tkF 109 d = (false) := fun _ => rfl
 have hr_ : ∀ g, cfg.raw g = (g == 152 || g == 118) := fun _ => rfl
 refine rF_fn rfl rfl Tryz.func109 rfl ?_
 repeat' first|simp (disch:=first|omega|assumption|decide) only[go_sem,hm,hz,ht,hr_]|(apply ifP_in<;>intro)
 refine rL_loop (σ := Nat) (fun i e H' => H' = H ∧ e 0 = .sl (l.map iA) ∧ e 4 = .i i ∧ e 3 = .sl ((Utf.text (l.take i)).map byteA) ∧ i ≤ l.length) (fun i => l.length - i) 0 ?_ ?_
 ·refine ⟨rfl, ?_, ?_, ?_, by omega⟩
  all_goals first | (simp (disch := first | assumption | omega) only [go_sem]; done) | (simp (disch := first | assumption | omega) only [go_sem]; rfl)
 ·rintro i e H' ⟨rfl, g0, g4, g3, i1⟩
  by_cases hi : i < l.length
  ·have hix := ix_at hi
   have htk := Utf.text_take hi
   have htl := Utf.text_len (l.take i)
   have htl2 : (l.take i).length ≤ i := by simp; omega
   generalize l[i] = c at *
   generalize Utf.text (l.take i) = t at *
   have hfb := Utf.fix_bnd c
   have hsl := Utf.sgn_len (Utf.fix c)
   cases hsc : Puny.scalar c with
   | true =>
    have hf : Utf.fix c = c := by unfold Utf.fix; rw [if_pos hsc]
    rw [hf] at htk hfb hsl
    obtain ⟨f1, f2⟩ := hfb
    repeat' first|simp (disch:=first|omega|assumption|decide) only[go_sem,hm,hz,ht,hr_,g0,g4,g3,hix,scalar_re,hsc,sign_re]|(apply ifP_in<;>intro)
    exact ⟨i + 1, ⟨rfl, by rw [htk], by omega⟩, by omega⟩
   | false =>
    have hf : Utf.fix c = 65533 := by unfold Utf.fix; rw [if_neg (by simp [hsc])]
    rw [hf] at htk hfb hsl
    repeat' first|simp (disch:=first|omega|assumption|decide) only[go_sem,hm,hz,ht,hr_,g0,g4,g3,hix,scalar_re,hsc,sign_re]|(apply ifP_in<;>intro)
    exact ⟨i + 1, ⟨rfl, by rw [htk], by omega⟩, by omega⟩
  ·have : i = l.length := by omega
   subst this
   rw [List.take_length] at g3
   repeat' first|simp (disch:=first|omega|assumption|decide) only[go_sem,hm,hz,ht,hr_,g0,g4,g3]|(apply ifP_in<;>intro)
theorem text_re (l : List Int) (hl : l.length ≤ 100000) {Q : K (AV → Heap → Prop)} : @rF Tryz.prog cfg 109 [.sl (l.map iA)] H Q = Q.v (.str (Utf.text l)) H := rF_eq (text_r l hl)
theorem ascii_r (l : List Int) (hl : l.length ≤ 140737488355328) : WF Tryz.prog cfg 110 [.sl (l.map iA)] H (fun r H' => r = .b (Id.plain l) ∧ H' = H) := by
 have hm : ∀ d, cfg.muF 110 d = (false) := fun _ => rfl
 have hz : ∀ d, cfg.fzF 110 d = (false) := fun _ => rfl
 have ht : ∀ d, cfg.tkF 110 d = (false) := fun _ => rfl
 have hr_ : ∀ g, cfg.raw g = (g == 152 || g == 118) := fun _ => rfl
 refine rF_fn rfl rfl Tryz.func110 rfl ?_
 repeat' first|simp (disch:=first|omega|assumption|decide) only[go_sem,hm,hz,ht,hr_]|(apply ifP_in<;>intro)
 refine rL_loop (σ := Nat) (fun i e H' => H' = H ∧ e 0 = .sl (l.map iA) ∧ e 3 = .i i ∧ i ≤ l.length ∧ Id.plain (l.take i) = true) (fun i => l.length - i) 0 ?_ ?_
 ·refine ⟨rfl, ?_, ?_, by omega, rfl⟩
  all_goals first | (simp (disch := first | assumption | omega) only [go_sem]; done) | (simp (disch := first | assumption | omega) only [go_sem]; rfl)
 ·rintro i e H' ⟨rfl, g0, g3, i1, i2⟩
  by_cases hi : i < l.length
  ·have hix := ix_at hi
   have hno := Id.plain_not l i hi
   have hsn := Id.plain_snoc l i hi i2
   have hh : Id.high l[i] = (decide (l[i] < 0) || decide (128 ≤ l[i])) := rfl
   generalize l[i] = c at *
   by_cases h1 : c < 0
   ·repeat' first|simp (disch:=first|omega|assumption|decide) only[go_sem,hm,hz,ht,hr_,g0,g3,hix]|(apply ifP_in<;>intro)
    rw [hno (by rw [hh]; simp; omega)]
   ·by_cases h2 : 127 < c
    ·repeat' first|simp (disch:=first|omega|assumption|decide) only[go_sem,hm,hz,ht,hr_,g0,g3,hix]|(apply ifP_in<;>intro)
     rw [hno (by rw [hh]; simp; omega)]
    ·repeat' first|simp (disch:=first|omega|assumption|decide) only[go_sem,hm,hz,ht,hr_,g0,g3,hix]|(apply ifP_in<;>intro)
     exact ⟨i + 1, ⟨rfl, by omega, hsn (by rw [hh]; simp; omega)⟩, by omega⟩
  ·have : i = l.length := by omega
   subst this
   rw [List.take_length] at i2
   repeat' first|simp (disch:=first|omega|assumption|decide) only[go_sem,hm,hz,ht,hr_,g0,g3]|(apply ifP_in<;>intro)
   rw [i2]
theorem ascii_re (l : List Int) (hl : l.length ≤ 140737488355328) {Q : K (AV → Heap → Prop)} : @rF Tryz.prog cfg 110 [.sl (l.map iA)] H Q = Q.v (.b (Id.plain l)) H := rF_eq (ascii_r l hl)
theorem marked_r (s : List UInt8) : WF Tryz.prog cfg 111 [.str s] H (fun r H' => r = .b (decide (s.take 4 = Id.XNb)) ∧ H' = H) := by
 have hm : ∀ d, cfg.muF 111 d = (false) := fun _ => rfl
 have hz : ∀ d, cfg.fzF 111 d = (false) := fun _ => rfl
 have ht : ∀ d, cfg.tkF 111 d = (false) := fun _ => rfl
 have hr_ : ∀ g, cfg.raw g = (g == 152 || g == 118) := fun _ => rfl
 refine rF_fn rfl rfl Tryz.func111 rfl ?_
 by_cases h4 : 4 ≤ s.length
 ·repeat' first|simp (disch:=first|omega|assumption|decide) only[go_sem,hm,hz,ht,hr_]|(apply ifP_in<;>intro)
  all_goals first | rfl | simp [Id.XNb]
 ·have : ¬ s.take 4 = Id.XNb := fun h => by have := congrArg List.length h; simp [Id.XNb] at this; omega
  repeat' first|simp (disch:=first|omega|assumption|decide) only[go_sem,hm,hz,ht,hr_]|(apply ifP_in<;>intro)
  rw [decide_eq_false this]
theorem marked_re (s : List UInt8) {Q : K (AV → Heap → Prop)} : @rF Tryz.prog cfg 111 [.str s] H Q = Q.v (.b (decide (s.take 4 = Id.XNb))) H := rF_eq (marked_r s)
end In
end Go.Proofs
