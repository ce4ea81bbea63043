/- The law of whose addresses are. (Printed by gen_sig.py.) -/
import Derived.Test.YtfkjkmjkfnephaaGreatDoorSiF
import Derived.Test.YtfkjkmjkfnephaaGreatDoorUrAllax0
set_option linter.unusedVariables false
set_option linter.unusedSimpArgs false
namespace Go.Proofs
open Go.Lv
namespace Hs
open Pu Ut Utf In
variable {H : Heap}
theorem first11_e {Q : K (AV → Heap → Prop)} : @rF Tryz.prog cfg 5 [] H Q = Q.v (.b true) H := rF_eq sprlaw11_first_w
theorem eqO_same (o : OrgV) : eqO o o = true := by
 unfold eqO hostE eqH
 simp
theorem reg_len (name : List UInt8) (l : List (List UInt8)) : (Si.reg name l).length ≤ name.length := by
 by_cases h : (Si.suffix name l).length = name.length
 ·unfold Si.reg; rw [if_pos h]; exact Nat.le_refl _
 ·have := (Si.reg_alike name l h).2
  rw [← this]; simp
theorem org0_good : org0.good := by
 refine ⟨by show (0 : Nat) ≤ _; omega, ⟨rfl, ?_, by show (0 : Int) ≤ 0; omega, by show (0 : Int) < _; omega⟩, by show (0 : Nat) ≤ _; omega, by show _ ≤ (0 : Int); omega, by show (0 : Int) ≤ _; omega⟩
 intro x hx
 have : x = 0 := by simpa [org0, Ho.zeros] using hx
 subst this
 omega
theorem org_good {u : UrlV} (hu : u.fine) (hs : u.small) : (orgOf u).1.good := by
 obtain ⟨f1, f2, f3, f4, f5, f6, f7, f8, f9, hfin, p0, p1⟩ := hu
 obtain ⟨_, _, h⟩ := hs
 unfold few0 at h
 have hr := spec_rng u.scheme
 unfold orgOf
 split
 ·exact org0_good
 ·refine ⟨by simp only; omega, hfin, by simp only; omega, ?_, ?_⟩
  ·simp only; split <;> omega
  ·simp only; split <;> omega
theorem site_good {u : UrlV} (hu : u.fine) (hs : u.small) (l : List (List UInt8)) : (siteOf u l).1.good := by
 have hg := org_good hu hs
 unfold siteOf
 generalize orgOf u = oo at *
 obtain ⟨o, ok⟩ := oo
 simp only at hg ⊢
 split
 ·obtain ⟨g1, g2, g3, g4, g5⟩ := hg
  simp only
  split
  ·exact ⟨g1, ⟨g2.1, g2.2.1, g2.2.2.1, g2.2.2.2⟩, by have := reg_len o.h.n l; simp only; omega, by simp only; omega, by simp only; omega⟩
  ·exact ⟨g1, g2, g3, by simp only; omega, by simp only; omega⟩
 ·exact hg
end Hs
end Go.Proofs
