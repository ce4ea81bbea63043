/- Walks: texts cut at a sign; prefixes. -/
import Derived.Test.YtpbemfiedmfpiaaGreatDoorUtA
import Derived.Test.YtpbemfiedmfpiaaGreatDoorLvAll13
set_option linter.unusedVariables false
set_option linter.unusedSimpArgs false
namespace Go.Proofs
open Go.Lv
namespace Ut
open Pu
variable {H : Heap}
theorem bytes_snoc {s : List UInt8} {i : Nat} (h : i < s.length) : s.take (i + 1) = s.take i ++ [s[i]] := List.take_succ_eq_append_getElem h
theorem split_r (s : List UInt8) (c : UInt8) (hs : s.length ≤ 1000000) : WF Tryz.prog cfg 58 [.str s, byteA c] H (fun r H' => r = .sl ((Sp.split c s).map AV.str) ∧ H' = H) := by
 have hm : ∀ d, cfg.muF 58 d = (false) := fun _ => rfl
 have hz : ∀ d, cfg.fzF 58 d = (false) := fun _ => rfl
 have ht : ∀ d, cfg.tkF 58 d = (false) := fun _ => rfl
 have hr_ : ∀ g, cfg.raw g = (g == 253 || g == 225 || g == 53) := fun _ => rfl
 refine rF_fn rfl rfl Tryz.func58 rfl ?_
 have hcb : c.toNat < 256 := c.toNat_lt
 repeat' first|simp (disch:=first|omega|assumption|decide) only[go_sem,hm,hz,ht,hr_]|(apply ifP_in<;>intro)
 obtain ⟨p, hpd⟩ : ∃ p, p = Sp.split c s := ⟨_, rfl⟩
 have hsl := Sp.split_len_le (c := c) s
 rw [← hpd] at hsl ⊢
 refine rL_loop (σ := List (List UInt8) × Nat × Nat) (fun z e H' => H' = H ∧ e 0 = .str s ∧ e 1 = byteA c ∧ e 7 = .i z.2.2 ∧ e 6 = .i z.2.1 ∧ e 5 = .sl (z.1.map AV.str) ∧ z.2.1 ≤ z.2.2 ∧ z.2.2 ≤ s.length + 1 ∧ c ∉ (s.take z.2.2).drop z.2.1 ∧ (z.2.2 ≤ s.length → p = z.1 ++ Sp.split c (s.drop z.2.1)) ∧ (z.2.2 = s.length + 1 → p = z.1)) (fun z => s.length + 1 - z.2.2) ([], 0, 0) ?_ ?_
 ·refine ⟨rfl, ?_, ?_, ?_, ?_, ?_, by simp, by simp, by simp, by simp [hpd], by simp⟩
  all_goals first | (simp (disch := first | assumption | omega) only [go_sem]; done) | (simp (disch := first | assumption | omega) only [go_sem]; rfl)
 ·rintro ⟨a, fr, i⟩ e H' ⟨rfl, g0, g1, g7, g6, g5, j1, j2, j3, j4, j5⟩
  simp only at g7 g6 g5 j1 j2 j3 j4 j5
  by_cases hil : i ≤ s.length
  ·have j4 := j4 hil
   have hal : a.length ≤ s.length + 1 := by
    have := congrArg List.length j4
    rw [List.length_append] at this; omega
   have hmd : s.drop fr = (s.take i).drop fr ++ s.drop i := by
    conv => lhs; rw [← List.take_append_drop i s]
    rw [List.drop_append_of_le_length (by simp; omega)]
   by_cases hlt : i < s.length
   ·have hix := ix_at hlt
    by_cases hc : s[i] = c
    ·have hd : p = a ++ [(s.take i).drop fr] ++ Sp.split c (s.drop (i + 1)) := by
      rw [j4, hmd, List.drop_eq_getElem_cons hlt, hc, Sp.split_append j3]; simp
     repeat' first|simp (disch:=first|omega|assumption|decide) only[go_sem,hm,hz,ht,hr_,g0,g1,g7,g6,g5,hix,hc]|(apply ifP_in<;>intro)
     refine ⟨(a ++ [(s.take i).drop fr], i + 1, i + 1), ⟨rfl, rfl, by simp, by simp, by simp only; omega, by simp, fun _ => hd, fun h => by simp only at h; omega⟩, by simp only; omega⟩
    ·have hcn : ¬ s[i].toNat = c.toNat := fun h => hc (UInt8.toNat.inj h)
     have hci : ¬ ((s[i].toNat : Int) = (c.toNat : Int)) := by omega
     repeat' first|simp (disch:=first|omega|assumption|decide) only[go_sem,hm,hz,ht,hr_,g0,g1,g7,g6,g5,hix]|(apply ifP_in<;>intro)
     refine ⟨(a, fr, i + 1), ⟨rfl, rfl, rfl, by simp only; omega, by simp only; omega, ?_, fun _ => j4, fun h => by simp only at h; omega⟩, by simp only; omega⟩
     simp only
     rw [bytes_snoc hlt, List.drop_append_of_le_length (by simp; omega), List.mem_append, not_or]
     exact ⟨j3, by simp; exact fun h => hc h.symm⟩
   ·have he : i = s.length := by omega
    have hd : p = a ++ [(s.take i).drop fr] := by
     rw [j4, hmd, he, List.drop_length, List.append_nil, Sp.split_none (by rw [he] at j3; exact j3)]
    repeat' first|simp (disch:=first|omega|assumption|decide) only[go_sem,hm,hz,ht,hr_,g0,g1,g7,g6,g5]|(apply ifP_in<;>intro)
    refine ⟨(a ++ [(s.take i).drop fr], i + 1, i + 1), ⟨rfl, rfl, by simp, by simp, by simp only; omega, by simp, fun h => by simp only at h; omega, fun _ => hd⟩, by simp only; omega⟩
  ·have he : i = s.length + 1 := by omega
   have hpa := j5 he
   subst hpa
   repeat' first|simp (disch:=first|omega|assumption|decide) only[go_sem,hm,hz,ht,hr_,g0,g1,g7,g6,g5]|(apply ifP_in<;>intro)
theorem split_re (s : List UInt8) (c : UInt8) (hs : s.length ≤ 1000000) {Q : K (AV → Heap → Prop)} : @rF Tryz.prog cfg 58 [.str s, byteA c] H Q = Q.v (.sl ((Sp.split c s).map AV.str)) H := rF_eq (split_r s c hs)
end Ut
end Go.Proofs
