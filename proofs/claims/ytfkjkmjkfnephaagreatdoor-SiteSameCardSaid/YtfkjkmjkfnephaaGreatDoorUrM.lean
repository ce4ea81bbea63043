/- Walks under a configuration of its own: signs out of bytes, as a row that may be written. -/
import Derived.Test.YtfkjkmjkfnephaaGreatDoorTyR12
import Derived.Test.YtfkjkmjkfnephaaGreatDoorHoAllax0
import Derived.Test.YtfkjkmjkfnephaaGreatDoorLvAll11
import Derived.Test.YtfkjkmjkfnephaaGreatDoorPunyAllax0
import Derived.Test.YtfkjkmjkfnephaaGreatDoorUtSpec
set_option linter.unusedVariables false
set_option linter.unusedSimpArgs false
namespace Go.Proofs
open Go.Lv
def okM : List Nat := [23, 42, 67]
def cfgM : Cfg := { ok := fun f => okM.contains f, sig := fun _ => {}, muF := fun f d => if f = 23 then (d == 3 || d == 19) else false }
theorem chkM : (okM.all fun f => chkFn Tryz.prog cfgM f) = true := by kernel_rfl
theorem worldM : World0 Tryz.prog cfgM where
 ext := by intro g s h; cases h
 extc := by intro g h; cases h
 chk := by
  intro g _ h
  exact List.all_eq_true.1 chkM g (by simpa [cfgM] using h)
 dyn := by intro g h; cases h
 mixed := by kernel_rfl
namespace HsM
open Utf
variable {H : Heap}
theorem bin_orI {P : Program} {xt : TypeId} {a b : Int} : bin P .or xt (.i a) (.i b) = some (.i (orI a b)) := rfl
theorem bin_andI {P : Program} {xt : TypeId} {a b : Int} : bin P .and xt (.i a) (.i b) = some (.i (andI a b)) := rfl
theorem lead_w (c : UInt8) : WF Tryz.prog cfgM 67 [byteA c] H (fun r H' => r = .tup [.i (Ho.lead c.toNat).1, .v (.int .u8 (Ho.lead c.toNat).2.1), .v (.int .u8 (Ho.lead c.toNat).2.2)] ∧ H' = H) := by
 have hm : ∀ d, cfgM.muF 67 d = (false) := fun _ => rfl
 have hz : ∀ d, cfgM.fzF 67 d = (false) := fun _ => rfl
 have ht : ∀ d, cfgM.tkF 67 d = (false) := fun _ => rfl
 have hr_ : ∀ g, cfgM.raw g = (false) := fun _ => rfl
 refine rF_fn rfl rfl Tryz.func67 rfl ?_
 have hcb : c.toNat < 256 := c.toNat_lt
 repeat' first|simp (disch:=first|omega|assumption|decide) only[go_sem,hm,hz,ht,hr_]|(apply ifP_in<;>intro)
 all_goals
  unfold Ho.lead
  repeat' first | rw [if_pos (by omega)] | rw [if_neg (by omega)]
theorem lead_e (c : UInt8) {Q : K (AV → Heap → Prop)} : @rF Tryz.prog cfgM 67 [byteA c] H Q = Q.v (.tup [.i (Ho.lead c.toNat).1, .v (.int .u8 (Ho.lead c.toNat).2.1), .v (.int .u8 (Ho.lead c.toNat).2.2)]) H := rF_eq (lead_w c)
theorem ix_get {b : List UInt8} {i : Nat} (h : i < b.length) : ix b (i : Int) = b.getD i 0 := by
 simp only [ix, Int.toNat_natCast, xgD, xgE h]; rfl
theorem next_w (b : List UInt8) (hb : 0 < b.length) (hb2 : b.length ≤ 1000000) : WF Tryz.prog cfgM 42 [.sl (b.map byteA)] H (fun r H' => (∃ ok, r = .tup [.i (Ho.nx b).1, .i (Ho.nx b).2, .b ok]) ∧ H' = H) := by
 have hm : ∀ d, cfgM.muF 42 d = (false) := fun _ => rfl
 have hz : ∀ d, cfgM.fzF 42 d = (false) := fun _ => rfl
 have ht : ∀ d, cfgM.tkF 42 d = (false) := fun _ => rfl
 have hr_ : ∀ g, cfgM.raw g = (false) := fun _ => rfl
 refine rF_fn rfl rfl Tryz.func42 rfl ?_
 obtain ⟨x, hx⟩ : ∃ x, x = b.getD 0 0 := ⟨_, rfl⟩
 have hix0 : ix b 0 = x := by rw [hx]; exact ix_get (i := 0) hb
 have hxb : x.toNat < 256 := x.toNat_lt
 rcases Ho.lead_cases (x.toNat : Int) with hl | hl | ⟨lo, hi, k1, k2, hl | hl | hl⟩
 ·have hnx : Ho.nx b = (65533, 1) := by unfold Ho.nx; rw [← hx]; simp only [hl]; rfl
  rw [hnx]
  repeat' first|simp (disch:=first|omega|assumption|decide) only[go_sem,hm,hz,ht,hr_,lead_e,hl,hix0]|(apply ifP_in<;>intro)
  exact ⟨_, rfl⟩
 ·have hnx : Ho.nx b = ((x.toNat : Int), 1) := by unfold Ho.nx; rw [← hx]; simp only [hl]; rfl
  rw [hnx]
  repeat' first|simp (disch:=first|omega|assumption|decide) only[go_sem,hm,hz,ht,hr_,lead_e,hl,hix0]|(apply ifP_in<;>intro)
  exact ⟨_, rfl⟩
 ·have hnx : Ho.nx b = Ho.cont b (1 + 1 - 1) 1 lo hi ((x.toNat : Int) % 32) := by unfold Ho.nx; rw [← hx]; simp only [hl]; rfl
  repeat' first|simp (disch:=first|omega|assumption|decide) only[go_sem,hm,hz,ht,hr_,lead_e,hl,hix0,bin_andI,Ho.and_31,Ho.and_15,Ho.and_7]|(apply ifP_in<;>intro)
  refine rL_loop (σ := Nat × Int × Int × Int) (fun z e H' => H' = H ∧ e 0 = .sl (b.map byteA) ∧ e 5 = .i 1 ∧ e 9 = .i z.1 ∧ e 6 = .v (.int .u8 z.2.1) ∧ e 7 = .v (.int .u8 z.2.2.1) ∧ e 8 = .i z.2.2.2 ∧ 1 ≤ z.1 ∧ z.1 ≤ 1 + 1 ∧ z.1 ≤ b.length ∧ 0 ≤ z.2.2.2 ∧ ((z.1 = 1 ∧ z.2.2.2 < 64) ∨ (z.1 = 2 ∧ z.2.2.2 < 4096) ∨ (z.1 = 3 ∧ z.2.2.2 < 262144) ∨ (z.1 = 4 ∧ z.2.2.2 < 16777216)) ∧ Ho.nx b = Ho.cont b (1 + 1 - z.1) z.1 z.2.1 z.2.2.1 z.2.2.2) (fun z => 1 + 1 - z.1) (1, lo, hi, (x.toNat : Int) % 32) ?_ ?_
  ·refine ⟨rfl, ?_, ?_, ?_, ?_, ?_, ?_, by simp, by simp, by simp only; omega, by simp only; omega, .inl ⟨rfl, by simp only; omega⟩, hnx⟩
   all_goals first | (exact congrArg AV.i (Ho.and_31 (by omega) (by omega))) | (simp (disch := first | assumption | omega) only [go_sem]; done) | (simp (disch := first | assumption | omega) only [go_sem]; rfl) | (simp (disch := first | assumption | omega) only [go_sem]; exact congrArg AV.i (Ho.and_31 (by omega) (by omega)))
  ·rintro ⟨i, l, h, c⟩ e H' ⟨rfl, g0, g5, g9, g6, g7, g8, i1, i2, i3, c0, c1, hc⟩
   simp only at g9 g6 g7 g8 i1 i2 i3 c0 c1 hc
   clear hnx
   by_cases hi : i ≤ 1
   ·have hst := Ho.cont_step (b := b) hi l h c
    rw [← hc] at hst
    by_cases hil : i < b.length
    ·have hix := ix_get hil
     generalize b.getD i 0 = y at *
     have hyb : y.toNat < 256 := y.toNat_lt
     have c2 : c < 16777216 := by omega
     by_cases hr : l ≤ (y.toNat : Int) ∧ (y.toNat : Int) ≤ h
     ·obtain ⟨r1, r2⟩ := hr
      rw [if_pos ⟨hil, r1, r2⟩] at hst
      repeat' first|simp (disch:=first|omega|assumption|decide) only[go_sem,hm,hz,ht,hr_,g0,g5,g9,g6,g7,g8,hix,bin_andI,bin_orI,Ho.and_63,Ho.or64]|(apply ifP_in<;>intro)
      exact ⟨(i + 1, 128, 191, c * 64 + (y.toNat : Int) % 64), ⟨rfl, rfl, rfl, rfl, by simp, by simp only; omega, by simp only; omega, by simp only; omega, by simp only; omega, hst⟩, by simp only; omega⟩
     ·rw [if_neg (fun hh => hr hh.2)] at hst
      rw [hst]
      by_cases r1 : l ≤ (y.toNat : Int)
      ·have r2 : ¬ (y.toNat : Int) ≤ h := fun hh => hr ⟨r1, hh⟩
       repeat' first|simp (disch:=first|omega|assumption|decide) only[go_sem,hm,hz,ht,hr_,g0,g5,g9,g6,g7,g8,hix]|(apply ifP_in<;>intro)
       exact ⟨_, rfl⟩
      ·repeat' first|simp (disch:=first|omega|assumption|decide) only[go_sem,hm,hz,ht,hr_,g0,g5,g9,g6,g7,g8,hix]|(apply ifP_in<;>intro)
       exact ⟨_, rfl⟩
    ·rw [if_neg (fun hh => hil hh.1)] at hst
     rw [hst]
     have : i = b.length := by omega
     subst this
     repeat' first|simp (disch:=first|omega|assumption|decide) only[go_sem,hm,hz,ht,hr_,g0,g5,g9,g6,g7,g8]|(apply ifP_in<;>intro)
     exact ⟨_, rfl⟩
   ·have : i = 1 + 1 := by omega
    subst this
    rw [Ho.cont_end] at hc
    rw [hc]
    repeat' first|simp (disch:=first|omega|assumption|decide) only[go_sem,hm,hz,ht,hr_,g0,g5,g9,g6,g7,g8]|(apply ifP_in<;>intro)
    exact ⟨_, rfl⟩
 ·have hnx : Ho.nx b = Ho.cont b (2 + 1 - 1) 1 lo hi ((x.toNat : Int) % 16) := by unfold Ho.nx; rw [← hx]; simp only [hl]; rfl
  repeat' first|simp (disch:=first|omega|assumption|decide) only[go_sem,hm,hz,ht,hr_,lead_e,hl,hix0,bin_andI,Ho.and_31,Ho.and_15,Ho.and_7]|(apply ifP_in<;>intro)
  refine rL_loop (σ := Nat × Int × Int × Int) (fun z e H' => H' = H ∧ e 0 = .sl (b.map byteA) ∧ e 5 = .i 2 ∧ e 9 = .i z.1 ∧ e 6 = .v (.int .u8 z.2.1) ∧ e 7 = .v (.int .u8 z.2.2.1) ∧ e 8 = .i z.2.2.2 ∧ 1 ≤ z.1 ∧ z.1 ≤ 2 + 1 ∧ z.1 ≤ b.length ∧ 0 ≤ z.2.2.2 ∧ ((z.1 = 1 ∧ z.2.2.2 < 64) ∨ (z.1 = 2 ∧ z.2.2.2 < 4096) ∨ (z.1 = 3 ∧ z.2.2.2 < 262144) ∨ (z.1 = 4 ∧ z.2.2.2 < 16777216)) ∧ Ho.nx b = Ho.cont b (2 + 1 - z.1) z.1 z.2.1 z.2.2.1 z.2.2.2) (fun z => 2 + 1 - z.1) (1, lo, hi, (x.toNat : Int) % 16) ?_ ?_
  ·refine ⟨rfl, ?_, ?_, ?_, ?_, ?_, ?_, by simp, by simp, by simp only; omega, by simp only; omega, .inl ⟨rfl, by simp only; omega⟩, hnx⟩
   all_goals first | (exact congrArg AV.i (Ho.and_15 (by omega) (by omega))) | (simp (disch := first | assumption | omega) only [go_sem]; done) | (simp (disch := first | assumption | omega) only [go_sem]; rfl) | (simp (disch := first | assumption | omega) only [go_sem]; exact congrArg AV.i (Ho.and_15 (by omega) (by omega)))
  ·rintro ⟨i, l, h, c⟩ e H' ⟨rfl, g0, g5, g9, g6, g7, g8, i1, i2, i3, c0, c1, hc⟩
   simp only at g9 g6 g7 g8 i1 i2 i3 c0 c1 hc
   clear hnx
   by_cases hi : i ≤ 2
   ·have hst := Ho.cont_step (b := b) hi l h c
    rw [← hc] at hst
    by_cases hil : i < b.length
    ·have hix := ix_get hil
     generalize b.getD i 0 = y at *
     have hyb : y.toNat < 256 := y.toNat_lt
     have c2 : c < 16777216 := by omega
     by_cases hr : l ≤ (y.toNat : Int) ∧ (y.toNat : Int) ≤ h
     ·obtain ⟨r1, r2⟩ := hr
      rw [if_pos ⟨hil, r1, r2⟩] at hst
      repeat' first|simp (disch:=first|omega|assumption|decide) only[go_sem,hm,hz,ht,hr_,g0,g5,g9,g6,g7,g8,hix,bin_andI,bin_orI,Ho.and_63,Ho.or64]|(apply ifP_in<;>intro)
      exact ⟨(i + 1, 128, 191, c * 64 + (y.toNat : Int) % 64), ⟨rfl, rfl, rfl, rfl, by simp, by simp only; omega, by simp only; omega, by simp only; omega, by simp only; omega, hst⟩, by simp only; omega⟩
     ·rw [if_neg (fun hh => hr hh.2)] at hst
      rw [hst]
      by_cases r1 : l ≤ (y.toNat : Int)
      ·have r2 : ¬ (y.toNat : Int) ≤ h := fun hh => hr ⟨r1, hh⟩
       repeat' first|simp (disch:=first|omega|assumption|decide) only[go_sem,hm,hz,ht,hr_,g0,g5,g9,g6,g7,g8,hix]|(apply ifP_in<;>intro)
       exact ⟨_, rfl⟩
      ·repeat' first|simp (disch:=first|omega|assumption|decide) only[go_sem,hm,hz,ht,hr_,g0,g5,g9,g6,g7,g8,hix]|(apply ifP_in<;>intro)
       exact ⟨_, rfl⟩
    ·rw [if_neg (fun hh => hil hh.1)] at hst
     rw [hst]
     have : i = b.length := by omega
     subst this
     repeat' first|simp (disch:=first|omega|assumption|decide) only[go_sem,hm,hz,ht,hr_,g0,g5,g9,g6,g7,g8]|(apply ifP_in<;>intro)
     exact ⟨_, rfl⟩
   ·have : i = 2 + 1 := by omega
    subst this
    rw [Ho.cont_end] at hc
    rw [hc]
    repeat' first|simp (disch:=first|omega|assumption|decide) only[go_sem,hm,hz,ht,hr_,g0,g5,g9,g6,g7,g8]|(apply ifP_in<;>intro)
    exact ⟨_, rfl⟩
 ·have hnx : Ho.nx b = Ho.cont b (3 + 1 - 1) 1 lo hi ((x.toNat : Int) % 8) := by unfold Ho.nx; rw [← hx]; simp only [hl]; rfl
  repeat' first|simp (disch:=first|omega|assumption|decide) only[go_sem,hm,hz,ht,hr_,lead_e,hl,hix0,bin_andI,Ho.and_31,Ho.and_15,Ho.and_7]|(apply ifP_in<;>intro)
  refine rL_loop (σ := Nat × Int × Int × Int) (fun z e H' => H' = H ∧ e 0 = .sl (b.map byteA) ∧ e 5 = .i 3 ∧ e 9 = .i z.1 ∧ e 6 = .v (.int .u8 z.2.1) ∧ e 7 = .v (.int .u8 z.2.2.1) ∧ e 8 = .i z.2.2.2 ∧ 1 ≤ z.1 ∧ z.1 ≤ 3 + 1 ∧ z.1 ≤ b.length ∧ 0 ≤ z.2.2.2 ∧ ((z.1 = 1 ∧ z.2.2.2 < 64) ∨ (z.1 = 2 ∧ z.2.2.2 < 4096) ∨ (z.1 = 3 ∧ z.2.2.2 < 262144) ∨ (z.1 = 4 ∧ z.2.2.2 < 16777216)) ∧ Ho.nx b = Ho.cont b (3 + 1 - z.1) z.1 z.2.1 z.2.2.1 z.2.2.2) (fun z => 3 + 1 - z.1) (1, lo, hi, (x.toNat : Int) % 8) ?_ ?_
  ·refine ⟨rfl, ?_, ?_, ?_, ?_, ?_, ?_, by simp, by simp, by simp only; omega, by simp only; omega, .inl ⟨rfl, by simp only; omega⟩, hnx⟩
   all_goals first | (exact congrArg AV.i (Ho.and_7 (by omega) (by omega))) | (simp (disch := first | assumption | omega) only [go_sem]; done) | (simp (disch := first | assumption | omega) only [go_sem]; rfl) | (simp (disch := first | assumption | omega) only [go_sem]; exact congrArg AV.i (Ho.and_7 (by omega) (by omega)))
  ·rintro ⟨i, l, h, c⟩ e H' ⟨rfl, g0, g5, g9, g6, g7, g8, i1, i2, i3, c0, c1, hc⟩
   simp only at g9 g6 g7 g8 i1 i2 i3 c0 c1 hc
   clear hnx
   by_cases hi : i ≤ 3
   ·have hst := Ho.cont_step (b := b) hi l h c
    rw [← hc] at hst
    by_cases hil : i < b.length
    ·have hix := ix_get hil
     generalize b.getD i 0 = y at *
     have hyb : y.toNat < 256 := y.toNat_lt
     have c2 : c < 16777216 := by omega
     by_cases hr : l ≤ (y.toNat : Int) ∧ (y.toNat : Int) ≤ h
     ·obtain ⟨r1, r2⟩ := hr
      rw [if_pos ⟨hil, r1, r2⟩] at hst
      repeat' first|simp (disch:=first|omega|assumption|decide) only[go_sem,hm,hz,ht,hr_,g0,g5,g9,g6,g7,g8,hix,bin_andI,bin_orI,Ho.and_63,Ho.or64]|(apply ifP_in<;>intro)
      exact ⟨(i + 1, 128, 191, c * 64 + (y.toNat : Int) % 64), ⟨rfl, rfl, rfl, rfl, by simp, by simp only; omega, by simp only; omega, by simp only; omega, by simp only; omega, hst⟩, by simp only; omega⟩
     ·rw [if_neg (fun hh => hr hh.2)] at hst
      rw [hst]
      by_cases r1 : l ≤ (y.toNat : Int)
      ·have r2 : ¬ (y.toNat : Int) ≤ h := fun hh => hr ⟨r1, hh⟩
       repeat' first|simp (disch:=first|omega|assumption|decide) only[go_sem,hm,hz,ht,hr_,g0,g5,g9,g6,g7,g8,hix]|(apply ifP_in<;>intro)
       exact ⟨_, rfl⟩
      ·repeat' first|simp (disch:=first|omega|assumption|decide) only[go_sem,hm,hz,ht,hr_,g0,g5,g9,g6,g7,g8,hix]|(apply ifP_in<;>intro)
       exact ⟨_, rfl⟩
    ·rw [if_neg (fun hh => hil hh.1)] at hst
     rw [hst]
     have : i = b.length := by omega
     subst this
     repeat' first|simp (disch:=first|omega|assumption|decide) only[go_sem,hm,hz,ht,hr_,g0,g5,g9,g6,g7,g8]|(apply ifP_in<;>intro)
     exact ⟨_, rfl⟩
   ·have : i = 3 + 1 := by omega
    subst this
    rw [Ho.cont_end] at hc
    rw [hc]
    repeat' first|simp (disch:=first|omega|assumption|decide) only[go_sem,hm,hz,ht,hr_,g0,g5,g9,g6,g7,g8]|(apply ifP_in<;>intro)
    exact ⟨_, rfl⟩
theorem lossyM_w (b : List UInt8) (hb2 : b.length ≤ 1000000) : WF Tryz.prog cfgM 23 [.sl (b.map byteA)] H (fun r H' => (r, H') = lossyR H (Ho.lossy b)) := by
 have hm : ∀ d, cfgM.muF 23 d = ((d == 3 || d == 19)) := fun _ => rfl
 have hz : ∀ d, cfgM.fzF 23 d = (false) := fun _ => rfl
 have ht : ∀ d, cfgM.tkF 23 d = (false) := fun _ => rfl
 have hr_ : ∀ g, cfgM.raw g = (false) := fun _ => rfl
 refine rF_fn rfl rfl Tryz.func23 rfl ?_
 have hll := Ho.lossy_len _ b (Nat.le_refl _)
 obtain ⟨D, hD⟩ : ∃ D, D = Ho.lossy b := ⟨_, rfl⟩
 rw [← hD] at hll ⊢
 repeat' first|simp (disch:=first|omega|assumption|decide) only[go_sem,hm,hz,ht,hr_]|(apply ifP_in<;>intro)
 refine rL_loop (σ := List Int × List UInt8) (fun z e H' => H' = (lossyR H z.1).2 ∧ e 0 = .sl (z.2.map byteA) ∧ e 3 = (lossyR H z.1).1 ∧ z.2.length ≤ b.length ∧ D = z.1 ++ Ho.lossy z.2) (fun z => z.2.length) ([], b) ?_ ?_
 ·refine ⟨rfl, ?_, ?_, by simp, by simp [hD]⟩
  all_goals first | (simp (disch := first | assumption | omega) only [go_sem, hm]; done) | (simp (disch := first | assumption | omega) only [go_sem, hm]; rfl)
 ·rintro ⟨o, s⟩ e H' ⟨rfl, g0, g3, i1, hd⟩
  simp only at g0 g3 i1 hd
  have hol : o.length ≤ 1000000 := by have := congrArg List.length hd; rw [List.length_append] at this; omega
  by_cases hs : 0 < s.length
  ·have hlc := Ho.lossy_cons hs
   have hn1 := Ho.nx_pos s
   have hn2 := Ho.nx_le s hs
   have hap := fun (c : Int) {t u el el' : TypeId} {z : List AV} [UndIs Tryz.prog t (.slice el)] [UndIs Tryz.prog u (.slice el')] [SizeIs Tryz.prog el 1] [BytesIs Tryz.prog el 8] [ZeroIs Tryz.prog el z] [AggIs Tryz.prog el false] (hzl : z.length = 1) => appendM_lossy (P := Tryz.prog) (H := H) (t := t) (u := u) hzl (l := o) (c := c) hol
   repeat' first|simp (disch:=first|omega|assumption|decide) only[go_sem,hm,hz,ht,hr_,g0,g3]|(apply ifP_in<;>intro)
   refine rF_use (next_w s hs (by omega)) ?_
   rintro _ H1 ⟨⟨ok, rfl⟩, rfl⟩
   generalize (Ho.nx s).1 = c at *
   generalize (Ho.nx s).2 = n at *
   repeat' first|simp (disch:=first|omega|assumption|decide) only[go_sem,hm,hz,ht,hr_,g0,g3]|(apply ifP_in<;>intro)
   rw [appendM_lossy rfl hol, bindP_some]
   repeat' first|simp (disch:=first|omega|assumption|decide) only[go_sem,hm,hz,ht,hr_,g0,g3]|(apply ifP_in<;>intro)
   refine ⟨(o ++ [c], s.drop n), ⟨?_, rfl, ?_, by simp only [List.length_drop]; omega, by rw [hd, hlc]; simp⟩, by simp only [List.length_drop]; omega⟩
   all_goals rfl
  ·have : s = [] := List.eq_nil_of_length_eq_zero (by omega)
   subst this
   rw [Ho.lossy_nil, List.append_nil] at hd
   subst hd
   repeat' first|simp (disch:=first|omega|assumption|decide) only[go_sem,hm,hz,ht,hr_,g0,g3]|(apply ifP_in<;>intro)
end HsM
theorem lossyM_ok {args : List AV} {H : Heap} {r : AV} {H' : Heap} (h : lossyMT H args = some (r, H')) : CallOK Tryz.prog {} 23 args H r H' := by
 unfold lossyMT at h
 split at h
 ·rename_i xs
  obtain ⟨b, hb, hh⟩ := xoB.1 h
  clear h
  split at hh
  ·rename_i hle
   have hx := bytesX_spec hb
   subst hx
   have hr := Option.some.inj hh
   rw [Ho.lossyF_eq _ _ (Nat.le_refl _)] at hr
   obtain ⟨n, r1, H1, h1, h2⟩ := HsM.lossyM_w (H := H) b hle
   rw [← h2] at hr
   obtain ⟨h3, h4⟩ := Prod.mk.inj hr
   subst h3 h4
   exact ((lcall_ok worldM n).ok _ _ _ _ _ h1).1
  ·cases hh
 ·cases h
end Go.Proofs
