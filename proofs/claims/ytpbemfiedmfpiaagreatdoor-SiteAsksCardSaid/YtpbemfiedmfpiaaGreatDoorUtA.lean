/- Walks: signs as bytes. -/
import Derived.Test.YtpbemfiedmfpiaaGreatDoorPunyAllbx0
import Derived.Test.YtpbemfiedmfpiaaGreatDoorUtSpec
set_option linter.unusedVariables false
set_option linter.unusedSimpArgs false
namespace Go.Proofs
open Go.Lv
namespace Ut
open Pu Utf
variable {H : Heap}
theorem bin_orI {P : Program} {xt : TypeId} {a b : Int} : bin P .or xt (.i a) (.i b) = some (.i (orI a b)) := rfl
theorem bin_andI {P : Program} {xt : TypeId} {a b : Int} : bin P .and xt (.i a) (.i b) = some (.i (andI a b)) := rfl
theorem wrapB (a : Int) : AV.v (.int .u8 (IntKind.u8.wrap a)) = byteA (toB a) := by
 unfold byteA toB
 congr 2
 rw [Utf.wrap_u8]
 simp [UInt8.toNat_ofNat']
 omega
theorem two_map {x y : UInt8} : AV.sl [byteA x, byteA y] = .sl ([x, y].map byteA) := rfl
theorem three_map {x y z : UInt8} : AV.sl [byteA x, byteA y, byteA z] = .sl ([x, y, z].map byteA) := rfl
theorem four_map {x y z u : UInt8} : AV.sl [byteA x, byteA y, byteA z, byteA u] = .sl ([x, y, z, u].map byteA) := rfl
theorem lay_w (b : List UInt8) (c : Int) (hb : b.length < 1000000) (h0 : 0 ≤ c) (h1 : c ≤ 1114111) : WF Tryz.prog cfg 208 [.sl (b.map byteA), .i c] H (fun r H' => r = .sl ((b ++ sgn c).map byteA) ∧ H' = H) := by
 have hm : ∀ d, cfg.muF 208 d = (false) := fun _ => rfl
 have hz : ∀ d, cfg.fzF 208 d = (false) := fun _ => rfl
 have ht : ∀ d, cfg.tkF 208 d = (false) := fun _ => rfl
 have hr_ : ∀ g, cfg.raw g = (g == 253 || g == 225 || g == 53) := fun _ => rfl
 refine rF_fn rfl rfl Tryz.func208 rfl ?_
 by_cases hc : c < 128
 ·rw [sgn_low hc]
  repeat' first|simp (disch:=first|omega|assumption|decide) only[go_sem,hm,hz,ht,hr_]|(apply ifP_in<;>intro)
 ·repeat' first|simp (disch:=first|omega|assumption|decide) only[go_sem,hm,hz,ht,hr_,bin_orI,bin_andI]|(apply ifP_in<;>intro)
  all_goals simp only [wrapB, two_map, three_map, four_map]
  all_goals rw [append_map]
  all_goals simp only [List.length_cons, List.length_nil]
  ·repeat' first|simp (disch:=first|omega|assumption|decide) only[go_sem,hm,hz,ht,hr_]|(apply ifP_in<;>intro)
   unfold sgn
   rw [if_neg (by omega), if_pos (by omega)]
  ·repeat' first|simp (disch:=first|omega|assumption|decide) only[go_sem,hm,hz,ht,hr_]|(apply ifP_in<;>intro)
   unfold sgn
   rw [if_neg (by omega), if_neg (by omega), if_pos (by omega)]
  ·repeat' first|simp (disch:=first|omega|assumption|decide) only[go_sem,hm,hz,ht,hr_]|(apply ifP_in<;>intro)
   unfold sgn
   rw [if_neg (by omega), if_neg (by omega), if_neg (by omega)]
theorem text_w (l : List Int) (hl : l.length ≤ 100000) : WF Tryz.prog cfg 182 [.sl (l.map iA)] H (fun r H' => r = .str (text l) ∧ H' = H) := by
 have hm : ∀ d, cfg.muF 182 d = (false) := fun _ => rfl
 have hz : ∀ d, cfg.fzF 182 d = (false) := fun _ => rfl
 have ht : ∀ d, cfg.tkF 182 d = (false) := fun _ => rfl
 have hr_ : ∀ g, cfg.raw g = (g == 253 || g == 225 || g == 53) := fun _ => rfl
 refine rF_fn rfl rfl Tryz.func182 rfl ?_
 repeat' first|simp (disch:=first|omega|assumption|decide) only[go_sem,hm,hz,ht,hr_]|(apply ifP_in<;>intro)
 refine rL_loop (σ := Nat) (fun i e H' => H' = H ∧ e 6 = .sl (l.map iA) ∧ e 7 = .i l.length ∧ e 8 = .i i ∧ e 3 = .sl ((text (l.take i)).map byteA) ∧ i ≤ l.length) (fun i => l.length - i) 0 ?_ ?_
 ·refine ⟨rfl, ?_, ?_, ?_, ?_, by omega⟩
  all_goals first | (simp (disch := first | assumption | omega) only [go_sem]; done) | (simp (disch := first | assumption | omega) only [go_sem]; rfl)
 ·rintro i e H' ⟨rfl, g6, g7, g8, g3, i1⟩
  by_cases hi : i < l.length
  ·have hix : ix l (i : Int) = l[i] := by simp [ix, xgD, xgE hi]
   have htk := text_take hi
   have htl := text_len (l.take i)
   have htl2 : (l.take i).length ≤ i := by simp; omega
   generalize l[i] = c at *
   generalize text (l.take i) = t at *
   have hfb := fix_bnd c
   repeat' first|simp (disch:=first|omega|assumption|decide) only[go_sem,hm,hz,ht,hr_,g6,g7,g8,g3,hix]|(apply ifP_in<;>intro)
   refine rF_use (scalar_w c) ?_
   rintro _ H1 ⟨rfl, rfl⟩
   cases hsc : Puny.scalar c with
   | true =>
    have hf : fix c = c := by unfold fix; rw [if_pos hsc]
    rw [hf] at htk hfb
    repeat' first|simp (disch:=first|omega|assumption|decide) only[go_sem,hm,hz,ht,hr_,g6,g7,g8,g3,hix]|(apply ifP_in<;>intro)
    refine rF_use (lay_w t c (by omega) hfb.1 hfb.2) ?_
    rintro _ H1 ⟨rfl, rfl⟩
    rw [← htk]
    repeat' first|simp (disch:=first|omega|assumption|decide) only[go_sem,hm,hz,ht,hr_,g6,g7,g8,g3,hix]|(apply ifP_in<;>intro)
    exact ⟨i + 1, ⟨rfl, rfl, by omega⟩, by omega⟩
   | false =>
    have hf : fix c = 65533 := by unfold fix; rw [if_neg (by simp [hsc])]
    rw [hf] at htk hfb
    repeat' first|simp (disch:=first|omega|assumption|decide) only[go_sem,hm,hz,ht,hr_,g6,g7,g8,g3,hix]|(apply ifP_in<;>intro)
    refine rF_use (lay_w t 65533 (by omega) hfb.1 hfb.2) ?_
    rintro _ H1 ⟨rfl, rfl⟩
    rw [← htk]
    repeat' first|simp (disch:=first|omega|assumption|decide) only[go_sem,hm,hz,ht,hr_,g6,g7,g8,g3,hix]|(apply ifP_in<;>intro)
    exact ⟨i + 1, ⟨rfl, rfl, by omega⟩, by omega⟩
  ·have : i = l.length := by omega
   subst this
   rw [List.take_length] at g3
   repeat' first|simp (disch:=first|omega|assumption|decide) only[go_sem,hm,hz,ht,hr_,g6,g7,g8,g3]|(apply ifP_in<;>intro)
end Ut
end Go.Proofs
