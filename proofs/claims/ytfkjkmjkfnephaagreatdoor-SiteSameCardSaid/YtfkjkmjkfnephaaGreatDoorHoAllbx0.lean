/- Walks: signs as digits, texts with percent signs. -/
import Derived.Test.YtfkjkmjkfnephaaGreatDoorSpA
import Derived.Test.YtfkjkmjkfnephaaGreatDoorHoAllax0
set_option linter.unusedVariables false
set_option linter.unusedSimpArgs false
namespace Go.Proofs
open Go.Lv
namespace Hs
open Pu Ut Utf
variable {H : Heap}
end Hs
end Go.Proofs
/- Walks: texts with percent signs. -/
set_option linter.unusedVariables false
set_option linter.unusedSimpArgs false
namespace Go.Proofs
open Go.Lv
namespace Hs
open Pu Ut Utf
variable {H : Heap}
end Hs
end Go.Proofs
/- Walks: bytes as texts with percent signs. -/
set_option linter.unusedVariables false
set_option linter.unusedSimpArgs false
namespace Go.Proofs
open Go.Lv
namespace Hs
open Pu Ut Utf
variable {H : Heap}
end Hs
end Go.Proofs
/- Walks: signs out of bytes. -/
set_option linter.unusedVariables false
set_option linter.unusedSimpArgs false
namespace Go.Proofs
open Go.Lv
namespace Hs
open Pu Ut Utf
variable {H : Heap}
theorem lead_w (c : UInt8) : WF Tryz.prog cfg 67 [byteA c] H (fun r H' => r = .tup [.i (Ho.lead c.toNat).1, .v (.int .u8 (Ho.lead c.toNat).2.1), .v (.int .u8 (Ho.lead c.toNat).2.2)] ∧ H' = H) := by
 have hm : ∀ d, cfg.muF 67 d = (false) := fun _ => rfl
 have hz : ∀ d, cfg.fzF 67 d = (false) := fun _ => rfl
 have ht : ∀ d, cfg.tkF 67 d = (false) := fun _ => rfl
 have hr_ : ∀ g, cfg.raw g = (g == 147 || g == 130 || g == 57) := fun _ => rfl
 refine rF_fn rfl rfl Tryz.func67 rfl ?_
 have hcb : c.toNat < 256 := c.toNat_lt
 repeat' first|simp (disch:=first|omega|assumption|decide) only[go_sem,hm,hz,ht,hr_]|(apply ifP_in<;>intro)
 all_goals
  unfold Ho.lead
  repeat' first | rw [if_pos (by omega)] | rw [if_neg (by omega)]
theorem lead_e (c : UInt8) {Q : K (AV → Heap → Prop)} : @rF Tryz.prog cfg 67 [byteA c] H Q = Q.v (.tup [.i (Ho.lead c.toNat).1, .v (.int .u8 (Ho.lead c.toNat).2.1), .v (.int .u8 (Ho.lead c.toNat).2.2)]) H := rF_eq (lead_w c)
theorem ix_get {b : List UInt8} {i : Nat} (h : i < b.length) : ix b (i : Int) = b.getD i 0 := by
 simp only [ix, Int.toNat_natCast, xgD, xgE h]; rfl
theorem next_w (b : List UInt8) (hb : 0 < b.length) (hb2 : b.length ≤ 1000000) : WF Tryz.prog cfg 42 [.sl (b.map byteA)] H (fun r H' => (∃ ok, r = .tup [.i (Ho.nx b).1, .i (Ho.nx b).2, .b ok]) ∧ H' = H) := by
 have hm : ∀ d, cfg.muF 42 d = (false) := fun _ => rfl
 have hz : ∀ d, cfg.fzF 42 d = (false) := fun _ => rfl
 have ht : ∀ d, cfg.tkF 42 d = (false) := fun _ => rfl
 have hr_ : ∀ g, cfg.raw g = (g == 147 || g == 130 || g == 57) := fun _ => rfl
 refine rF_fn rfl rfl Tryz.func42 rfl ?_
 obtain ⟨x, hx⟩ : ∃ x, x = b.getD 0 0 := ⟨_, rfl⟩
 have hix0 : ix b 0 = x := by rw [hx]; exact ix_get (i := 0) hb
 have hxb : x.toNat < 256 := x.toNat_lt
 rcases Ho.lead_cases (x.toNat : Int) with hl | hl | ⟨lo, hi, k1, k2, hl | hl | hl⟩
 ·have hnx : Ho.nx b = (65533, 1) := by unfold Ho.nx; rw [← hx]; simp only [hl]; rfl
  rw [hnx]
  repeat' first|simp (disch:=first|omega|assumption|decide) only[go_sem,hm,hz,ht,hr_,lead_e,hl,hix0]|(apply ifP_in<;>intro)
  exact ⟨_, rfl⟩
 ·have hnx : Ho.nx b = ((x.toNat : Int), 1) := by unfold Ho.nx; rw [← hx]; simp only [hl]; rfl
  rw [hnx]
  repeat' first|simp (disch:=first|omega|assumption|decide) only[go_sem,hm,hz,ht,hr_,lead_e,hl,hix0]|(apply ifP_in<;>intro)
  exact ⟨_, rfl⟩
 ·have hnx : Ho.nx b = Ho.cont b (1 + 1 - 1) 1 lo hi ((x.toNat : Int) % 32) := by unfold Ho.nx; rw [← hx]; simp only [hl]; rfl
  repeat' first|simp (disch:=first|omega|assumption|decide) only[go_sem,hm,hz,ht,hr_,lead_e,hl,hix0,bin_andI,Ho.and_31,Ho.and_15,Ho.and_7]|(apply ifP_in<;>intro)
  refine rL_loop (σ := Nat × Int × Int × Int) (fun z e H' => H' = H ∧ e 0 = .sl (b.map byteA) ∧ e 5 = .i 1 ∧ e 9 = .i z.1 ∧ e 6 = .v (.int .u8 z.2.1) ∧ e 7 = .v (.int .u8 z.2.2.1) ∧ e 8 = .i z.2.2.2 ∧ 1 ≤ z.1 ∧ z.1 ≤ 1 + 1 ∧ z.1 ≤ b.length ∧ 0 ≤ z.2.2.2 ∧ ((z.1 = 1 ∧ z.2.2.2 < 64) ∨ (z.1 = 2 ∧ z.2.2.2 < 4096) ∨ (z.1 = 3 ∧ z.2.2.2 < 262144) ∨ (z.1 = 4 ∧ z.2.2.2 < 16777216)) ∧ Ho.nx b = Ho.cont b (1 + 1 - z.1) z.1 z.2.1 z.2.2.1 z.2.2.2) (fun z => 1 + 1 - z.1) (1, lo, hi, (x.toNat : Int) % 32) ?_ ?_
  ·refine ⟨rfl, ?_, ?_, ?_, ?_, ?_, ?_, by simp, by simp, by simp only; omega, by simp only; omega, .inl ⟨rfl, by simp only; omega⟩, hnx⟩
   all_goals first | (exact congrArg AV.i (Ho.and_31 (by omega) (by omega))) | (simp (disch := first | assumption | omega) only [go_sem]; done) | (simp (disch := first | assumption | omega) only [go_sem]; rfl) | (simp (disch := first | assumption | omega) only [go_sem]; exact congrArg AV.i (Ho.and_31 (by omega) (by omega)))
  ·rintro ⟨i, l, h, c⟩ e H' ⟨rfl, g0, g5, g9, g6, g7, g8, i1, i2, i3, c0, c1, hc⟩
   simp only at g9 g6 g7 g8 i1 i2 i3 c0 c1 hc
   clear hnx
   by_cases hi : i ≤ 1
   ·have hst := Ho.cont_step (b := b) hi l h c
    rw [← hc] at hst
    by_cases hil : i < b.length
    ·have hix := ix_get hil
     generalize b.getD i 0 = y at *
     have hyb : y.toNat < 256 := y.toNat_lt
     have c2 : c < 16777216 := by omega
     by_cases hr : l ≤ (y.toNat : Int) ∧ (y.toNat : Int) ≤ h
     ·obtain ⟨r1, r2⟩ := hr
      rw [if_pos ⟨hil, r1, r2⟩] at hst
      repeat' first|simp (disch:=first|omega|assumption|decide) only[go_sem,hm,hz,ht,hr_,g0,g5,g9,g6,g7,g8,hix,bin_andI,bin_orI,Ho.and_63,Ho.or64]|(apply ifP_in<;>intro)
      exact ⟨(i + 1, 128, 191, c * 64 + (y.toNat : Int) % 64), ⟨rfl, rfl, rfl, rfl, by simp, by simp only; omega, by simp only; omega, by simp only; omega, by simp only; omega, hst⟩, by simp only; omega⟩
     ·rw [if_neg (fun hh => hr hh.2)] at hst
      rw [hst]
      by_cases r1 : l ≤ (y.toNat : Int)
      ·have r2 : ¬ (y.toNat : Int) ≤ h := fun hh => hr ⟨r1, hh⟩
       repeat' first|simp (disch:=first|omega|assumption|decide) only[go_sem,hm,hz,ht,hr_,g0,g5,g9,g6,g7,g8,hix]|(apply ifP_in<;>intro)
       exact ⟨_, rfl⟩
      ·repeat' first|simp (disch:=first|omega|assumption|decide) only[go_sem,hm,hz,ht,hr_,g0,g5,g9,g6,g7,g8,hix]|(apply ifP_in<;>intro)
       exact ⟨_, rfl⟩
    ·rw [if_neg (fun hh => hil hh.1)] at hst
     rw [hst]
     have : i = b.length := by omega
     subst this
     repeat' first|simp (disch:=first|omega|assumption|decide) only[go_sem,hm,hz,ht,hr_,g0,g5,g9,g6,g7,g8]|(apply ifP_in<;>intro)
     exact ⟨_, rfl⟩
   ·have : i = 1 + 1 := by omega
    subst this
    rw [Ho.cont_end] at hc
    rw [hc]
    repeat' first|simp (disch:=first|omega|assumption|decide) only[go_sem,hm,hz,ht,hr_,g0,g5,g9,g6,g7,g8]|(apply ifP_in<;>intro)
    exact ⟨_, rfl⟩
 ·have hnx : Ho.nx b = Ho.cont b (2 + 1 - 1) 1 lo hi ((x.toNat : Int) % 16) := by unfold Ho.nx; rw [← hx]; simp only [hl]; rfl
  repeat' first|simp (disch:=first|omega|assumption|decide) only[go_sem,hm,hz,ht,hr_,lead_e,hl,hix0,bin_andI,Ho.and_31,Ho.and_15,Ho.and_7]|(apply ifP_in<;>intro)
  refine rL_loop (σ := Nat × Int × Int × Int) (fun z e H' => H' = H ∧ e 0 = .sl (b.map byteA) ∧ e 5 = .i 2 ∧ e 9 = .i z.1 ∧ e 6 = .v (.int .u8 z.2.1) ∧ e 7 = .v (.int .u8 z.2.2.1) ∧ e 8 = .i z.2.2.2 ∧ 1 ≤ z.1 ∧ z.1 ≤ 2 + 1 ∧ z.1 ≤ b.length ∧ 0 ≤ z.2.2.2 ∧ ((z.1 = 1 ∧ z.2.2.2 < 64) ∨ (z.1 = 2 ∧ z.2.2.2 < 4096) ∨ (z.1 = 3 ∧ z.2.2.2 < 262144) ∨ (z.1 = 4 ∧ z.2.2.2 < 16777216)) ∧ Ho.nx b = Ho.cont b (2 + 1 - z.1) z.1 z.2.1 z.2.2.1 z.2.2.2) (fun z => 2 + 1 - z.1) (1, lo, hi, (x.toNat : Int) % 16) ?_ ?_
  ·refine ⟨rfl, ?_, ?_, ?_, ?_, ?_, ?_, by simp, by simp, by simp only; omega, by simp only; omega, .inl ⟨rfl, by simp only; omega⟩, hnx⟩
   all_goals first | (exact congrArg AV.i (Ho.and_15 (by omega) (by omega))) | (simp (disch := first | assumption | omega) only [go_sem]; done) | (simp (disch := first | assumption | omega) only [go_sem]; rfl) | (simp (disch := first | assumption | omega) only [go_sem]; exact congrArg AV.i (Ho.and_15 (by omega) (by omega)))
  ·rintro ⟨i, l, h, c⟩ e H' ⟨rfl, g0, g5, g9, g6, g7, g8, i1, i2, i3, c0, c1, hc⟩
   simp only at g9 g6 g7 g8 i1 i2 i3 c0 c1 hc
   clear hnx
   by_cases hi : i ≤ 2
   ·have hst := Ho.cont_step (b := b) hi l h c
    rw [← hc] at hst
    by_cases hil : i < b.length
    ·have hix := ix_get hil
     generalize b.getD i 0 = y at *
     have hyb : y.toNat < 256 := y.toNat_lt
     have c2 : c < 16777216 := by omega
     by_cases hr : l ≤ (y.toNat : Int) ∧ (y.toNat : Int) ≤ h
     ·obtain ⟨r1, r2⟩ := hr
      rw [if_pos ⟨hil, r1, r2⟩] at hst
      repeat' first|simp (disch:=first|omega|assumption|decide) only[go_sem,hm,hz,ht,hr_,g0,g5,g9,g6,g7,g8,hix,bin_andI,bin_orI,Ho.and_63,Ho.or64]|(apply ifP_in<;>intro)
      exact ⟨(i + 1, 128, 191, c * 64 + (y.toNat : Int) % 64), ⟨rfl, rfl, rfl, rfl, by simp, by simp only; omega, by simp only; omega, by simp only; omega, by simp only; omega, hst⟩, by simp only; omega⟩
     ·rw [if_neg (fun hh => hr hh.2)] at hst
      rw [hst]
      by_cases r1 : l ≤ (y.toNat : Int)
      ·have r2 : ¬ (y.toNat : Int) ≤ h := fun hh => hr ⟨r1, hh⟩
       repeat' first|simp (disch:=first|omega|assumption|decide) only[go_sem,hm,hz,ht,hr_,g0,g5,g9,g6,g7,g8,hix]|(apply ifP_in<;>intro)
       exact ⟨_, rfl⟩
      ·repeat' first|simp (disch:=first|omega|assumption|decide) only[go_sem,hm,hz,ht,hr_,g0,g5,g9,g6,g7,g8,hix]|(apply ifP_in<;>intro)
       exact ⟨_, rfl⟩
    ·rw [if_neg (fun hh => hil hh.1)] at hst
     rw [hst]
     have : i = b.length := by omega
     subst this
     repeat' first|simp (disch:=first|omega|assumption|decide) only[go_sem,hm,hz,ht,hr_,g0,g5,g9,g6,g7,g8]|(apply ifP_in<;>intro)
     exact ⟨_, rfl⟩
   ·have : i = 2 + 1 := by omega
    subst this
    rw [Ho.cont_end] at hc
    rw [hc]
    repeat' first|simp (disch:=first|omega|assumption|decide) only[go_sem,hm,hz,ht,hr_,g0,g5,g9,g6,g7,g8]|(apply ifP_in<;>intro)
    exact ⟨_, rfl⟩
 ·have hnx : Ho.nx b = Ho.cont b (3 + 1 - 1) 1 lo hi ((x.toNat : Int) % 8) := by unfold Ho.nx; rw [← hx]; simp only [hl]; rfl
  repeat' first|simp (disch:=first|omega|assumption|decide) only[go_sem,hm,hz,ht,hr_,lead_e,hl,hix0,bin_andI,Ho.and_31,Ho.and_15,Ho.and_7]|(apply ifP_in<;>intro)
  refine rL_loop (σ := Nat × Int × Int × Int) (fun z e H' => H' = H ∧ e 0 = .sl (b.map byteA) ∧ e 5 = .i 3 ∧ e 9 = .i z.1 ∧ e 6 = .v (.int .u8 z.2.1) ∧ e 7 = .v (.int .u8 z.2.2.1) ∧ e 8 = .i z.2.2.2 ∧ 1 ≤ z.1 ∧ z.1 ≤ 3 + 1 ∧ z.1 ≤ b.length ∧ 0 ≤ z.2.2.2 ∧ ((z.1 = 1 ∧ z.2.2.2 < 64) ∨ (z.1 = 2 ∧ z.2.2.2 < 4096) ∨ (z.1 = 3 ∧ z.2.2.2 < 262144) ∨ (z.1 = 4 ∧ z.2.2.2 < 16777216)) ∧ Ho.nx b = Ho.cont b (3 + 1 - z.1) z.1 z.2.1 z.2.2.1 z.2.2.2) (fun z => 3 + 1 - z.1) (1, lo, hi, (x.toNat : Int) % 8) ?_ ?_
  ·refine ⟨rfl, ?_, ?_, ?_, ?_, ?_, ?_, by simp, by simp, by simp only; omega, by simp only; omega, .inl ⟨rfl, by simp only; omega⟩, hnx⟩
   all_goals first | (exact congrArg AV.i (Ho.and_7 (by omega) (by omega))) | (simp (disch := first | assumption | omega) only [go_sem]; done) | (simp (disch := first | assumption | omega) only [go_sem]; rfl) | (simp (disch := first | assumption | omega) only [go_sem]; exact congrArg AV.i (Ho.and_7 (by omega) (by omega)))
  ·rintro ⟨i, l, h, c⟩ e H' ⟨rfl, g0, g5, g9, g6, g7, g8, i1, i2, i3, c0, c1, hc⟩
   simp only at g9 g6 g7 g8 i1 i2 i3 c0 c1 hc
   clear hnx
   by_cases hi : i ≤ 3
   ·have hst := Ho.cont_step (b := b) hi l h c
    rw [← hc] at hst
    by_cases hil : i < b.length
    ·have hix := ix_get hil
     generalize b.getD i 0 = y at *
     have hyb : y.toNat < 256 := y.toNat_lt
     have c2 : c < 16777216 := by omega
     by_cases hr : l ≤ (y.toNat : Int) ∧ (y.toNat : Int) ≤ h
     ·obtain ⟨r1, r2⟩ := hr
      rw [if_pos ⟨hil, r1, r2⟩] at hst
      repeat' first|simp (disch:=first|omega|assumption|decide) only[go_sem,hm,hz,ht,hr_,g0,g5,g9,g6,g7,g8,hix,bin_andI,bin_orI,Ho.and_63,Ho.or64]|(apply ifP_in<;>intro)
      exact ⟨(i + 1, 128, 191, c * 64 + (y.toNat : Int) % 64), ⟨rfl, rfl, rfl, rfl, by simp, by simp only; omega, by simp only; omega, by simp only; omega, by simp only; omega, hst⟩, by simp only; omega⟩
     ·rw [if_neg (fun hh => hr hh.2)] at hst
      rw [hst]
      by_cases r1 : l ≤ (y.toNat : Int)
      ·have r2 : ¬ (y.toNat : Int) ≤ h := fun hh => hr ⟨r1, hh⟩
       repeat' first|simp (disch:=first|omega|assumption|decide) only[go_sem,hm,hz,ht,hr_,g0,g5,g9,g6,g7,g8,hix]|(apply ifP_in<;>intro)
       exact ⟨_, rfl⟩
      ·repeat' first|simp (disch:=first|omega|assumption|decide) only[go_sem,hm,hz,ht,hr_,g0,g5,g9,g6,g7,g8,hix]|(apply ifP_in<;>intro)
       exact ⟨_, rfl⟩
    ·rw [if_neg (fun hh => hil hh.1)] at hst
     rw [hst]
     have : i = b.length := by omega
     subst this
     repeat' first|simp (disch:=first|omega|assumption|decide) only[go_sem,hm,hz,ht,hr_,g0,g5,g9,g6,g7,g8]|(apply ifP_in<;>intro)
     exact ⟨_, rfl⟩
   ·have : i = 3 + 1 := by omega
    subst this
    rw [Ho.cont_end] at hc
    rw [hc]
    repeat' first|simp (disch:=first|omega|assumption|decide) only[go_sem,hm,hz,ht,hr_,g0,g5,g9,g6,g7,g8]|(apply ifP_in<;>intro)
    exact ⟨_, rfl⟩
end Hs
end Go.Proofs
/- Walks: signs out of bytes, as a whole. -/
set_option linter.unusedVariables false
set_option linter.unusedSimpArgs false
namespace Go.Proofs
open Go.Lv
namespace Hs
open Pu Ut Utf
variable {H : Heap}
end Hs
end Go.Proofs
set_option linter.unusedVariables false
set_option linter.unusedSimpArgs false
namespace Ho
open Go
def isd (base : Int) (c : UInt8) : Bool := decide (0 ≤ dig c ∧ dig c < base)
def digs (base : Int) (s : List UInt8) : Bool := s.all (isd base)
def num (base : Int) (s : List UInt8) : Int := s.foldl (fun n c => n * base + dig c) 0
def capn (C base : Int) (s : List UInt8) : Int := s.foldl (fun n c => min (n * base + dig c) C) 0
def hexp (s : List UInt8) : Bool := decide (s.take 2 = [48, 120] ∨ s.take 2 = [48, 88])
def pbase (s : List UInt8) : Int := if hexp s = true then 16 else if 1 < s.length ∧ s.getD 0 0 = 48 then 8 else 10
def prest (s : List UInt8) : List UInt8 := if hexp s = true then s.drop 2 else if 1 < s.length ∧ s.getD 0 0 = 48 then s.drop 1 else s
def pok (s : List UInt8) : Bool := decide (s ≠ []) && digs (pbase s) (prest s)
def pval (C : Int) (s : List UInt8) : Int := if pok s = true then capn C (pbase s) (prest s) else 0
def parts (s : List UInt8) : List (List UInt8) := if 1 < (Sp.split 46 s).length ∧ (Sp.split 46 s).getD ((Sp.split 46 s).length - 1) [] = [] then (Sp.split 46 s).take ((Sp.split 46 s).length - 1) else Sp.split 46 s
def lastp (s : List UInt8) : List UInt8 := (parts s).getD ((parts s).length - 1) []
def ends (s : List UInt8) : Bool := decide (lastp s ≠ []) && (digs 10 (lastp s) || (hexp (lastp s) && digs 16 ((lastp s).drop 2)))
theorem split_pos (s : List UInt8) : 0 < (Sp.split 46 s).length := Sp.split_pos s
def sm (ns : List Int) : Nat → Int
 | 0 => 0
 | i + 1 => sm ns i + ns.getD i 0 * 256 ^ (3 - i)
def big (ns : List Int) (k : Nat) : Bool := (ns.take k).any fun v => decide (255 < v)
def p4n (ns : List Int) : Int × Int := if 256 ^ (5 - ns.length) ≤ ns.getD (ns.length - 1) 0 ∨ big ns (ns.length - 1) = true then (0, 1) else (ns.getD (ns.length - 1) 0 + sm ns (ns.length - 1), 0)
def p4 (C : Int) (s : List UInt8) : Int × Int := if 4000 < s.length then (0, 11) else if 4 < (parts s).length then (0, 4) else if (parts s).all pok = false then (0, 4) else p4n ((parts s).map (pval C))
end Ho
/- Walks: numbers. -/
set_option linter.unusedVariables false
set_option linter.unusedSimpArgs false
namespace Go.Proofs
open Go.Lv
namespace Hs
open Pu Ut Utf
variable {H : Heap}
end Hs
end Go.Proofs
/- Walks: parts of an address. -/
set_option linter.unusedVariables false
set_option linter.unusedSimpArgs false
namespace Go.Proofs
open Go.Lv
namespace Hs
open Pu Ut Utf
variable {H : Heap}
end Hs
end Go.Proofs
/- Walks: the parts of an address, and how it ends. -/
set_option linter.unusedVariables false
set_option linter.unusedSimpArgs false
namespace Go.Proofs
open Go.Lv
namespace Hs
open Pu Ut Utf
variable {H : Heap}
end Hs
end Go.Proofs
/- Walks: numbers of four bytes. -/
set_option linter.unusedVariables false
set_option linter.unusedSimpArgs false
namespace Go.Proofs
open Go.Lv
namespace Hs
open Pu Ut Utf
variable {H : Heap}
end Hs
end Go.Proofs
set_option linter.unusedVariables false
set_option linter.unusedSimpArgs false
namespace Ho
open Go
def octOK (y : List UInt8) : Bool := decide (y ≠ [] ∧ y.length ≤ 3 ∧ digs 10 y = true ∧ ¬ (1 < y.length ∧ y.getD 0 0 = 48) ∧ num 10 y ≤ 255)
def oct (y : List UInt8) : Option Int := if octOK y = true then some (num 10 y) else none
def ofold : List (List UInt8) → Int → Option Int
 | [], n => some n
 | y :: r, n => (oct y).bind fun v => ofold r (n * 256 + v)
def four (x : List UInt8) : Option (List Int) := if (Sp.split 46 x).length = 4 then (ofold (Sp.split 46 x) 0).map fun n => [n / 65536, n % 65536] else none
def hexg (x : List UInt8) : Option Int := if x ≠ [] ∧ x.length ≤ 4 ∧ digs 16 x = true then some (num 16 x) else none
def grp (e : Bool) : List (List UInt8) → Option (List Int)
 | [] => some []
 | [x] => if e = true ∧ 46 ∈ x then four x else (hexg x).map fun v => [v]
 | x :: y :: r => (hexg x).bind fun v => (grp e (y :: r)).map (v :: ·)
def list6 (e : Bool) (s : List UInt8) : Option (List Int) := if s = [] then some [] else grp e (Sp.split 58 s)
end Ho
/- Walks: pieces of an address. -/
set_option linter.unusedVariables false
set_option linter.unusedSimpArgs false
namespace Go.Proofs
open Go.Lv
namespace Hs
open Pu Ut Utf
variable {H : Heap}
abbrev uA : Int → AV := fun n => .v (.int .u16 n)
instance : CellsN (fun n : Int => AV.v (.int .u16 n)) 1 := ⟨fun _ => rfl⟩
instance : OneOK (fun n : Int => AV.v (.int .u16 n)) := ⟨fun _ => rfl⟩
instance : Cell1 (fun n : Int => AV.v (.int .u16 n)) := ⟨fun _ => rfl, fun _ => rfl⟩
end Hs
end Go.Proofs
/- Walks: pieces of an address, the document's side. -/
set_option linter.unusedVariables false
set_option linter.unusedSimpArgs false
namespace Go.Proofs
open Go.Lv
namespace Hs
open Pu Ut Utf
variable {H : Heap}
end Hs
end Go.Proofs
