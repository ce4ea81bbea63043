/- The law of sites of the same origin: what it needs. -/
import Derived.Test.YtfkjkmjkfnephaaGreatDoorSiG
set_option linter.unusedVariables false
set_option linter.unusedSimpArgs false
namespace Go.Proofs
open Go.Lv
namespace Hs
open Pu Ut Utf In
variable {H : Heap}
theorem upd_e {P : Program} {K9 : Heap} {t kt et : TypeId} {xs : List AV} {y : Value} {fs : Array Field} {j : Nat} (hm : mapTy P t = some (kt, et)) (hd : P.underlying kt = some (.struct fs)) (hsi : P.stoodInHeld kt = false) (hself : eqFs P xs xs fs.toList = some true) (hy : (AV.v y).one = true) (hj : K9[j]? = some [.mv [] []]) :
  updateA P K9 t (.mp j) (.agg xs) (.v y) = some (K9.set j [.mv [.agg xs] [.v y]]) := by
 have hmo : mapOf K9 j = some ([], []) := by unfold mapOf; rw [hj]
 have hk : keyKind P kt (.agg xs) = false := by unfold keyKind; rw [hd]
 unfold updateA
 rw [hm, Option.bind_some]
 simp only
 rw [if_neg (by rw [hk]; simp)]
 unfold updateG
 rw [hd]
 simp only
 rw [if_pos ⟨hsi, hself, by simp [AV.cells, hy]⟩, hmo]
theorem look_e {P : Program} {K9 : Heap} {t kt et : TypeId} {xs ys : List AV} {v z : AV} {fs : Array Field} {j : Nat} {b : Bool} (hm : mapTy P t = some (kt, et)) (hd : P.underlying kt = some (.struct fs)) (hsi : P.stoodInHeld kt = false) (hq : eqFs P xs ys fs.toList = some b) (hz : zeroV P et = some z) (hj : K9[j]? = some [.mv [.agg ys] [v]]) :
  lookupA P K9 t (.mp j) (.agg xs) false = some (if b = true then v else z) := by
 have hmo : mapOf K9 j = some ([.agg ys], [v]) := by unfold mapOf; rw [hj]
 have hk : keyKind P kt (.agg xs) = false := by unfold keyKind; rw [hd]
 unfold lookupA
 rw [hm, Option.bind_some]
 simp only
 rw [if_neg (by rw [hk]; simp)]
 unfold lookupG
 rw [hd]
 simp only
 rw [if_pos hsi, hmo]
 simp only
 rw [hq, Option.bind_some]
 cases b with
 | true => rfl
 | false => simp only; rw [hz]; rfl
theorem eqFs_of_bin {P : Program} {t : TypeId} {fs : Array Field} {xs ys : List AV} {b : Bool} (hg : P.eqGuardType P.depth t = false) (hd : P.underlying t = some (.struct fs)) (hsi : P.stoodInHeld t = false) (h : bin P .eql t (.agg xs) (.agg ys) = some (.b b)) : eqFs P xs ys fs.toList = some b := by
 have h2 : binAgg P .eql t xs ys = some (.b b) := h
 unfold binAgg at h2
 rw [if_pos hg, hd] at h2
 simp only at h2
 rw [if_pos hsi] at h2
 obtain ⟨u, hu, h2⟩ := xoB.1 h2
 have h3 : some (AV.b u) = some (.b b) := h2
 injection h3 with h3; injection h3 with h3; injection h3 with h3
 rw [hu, h3]
theorem eqO_eq {o o' : OrgV} (h : eqO o o' = true) : o = o' := by
 unfold eqO at h
 obtain ⟨h1, h2, h3⟩ := of_decide_eq_true h
 unfold hostE eqH at h2
 obtain ⟨k1, k2, k3, k4⟩ := of_decide_eq_true h2
 obtain ⟨s, hh, p⟩ := o
 obtain ⟨s', hh', p'⟩ := o'
 obtain ⟨a, b, c, d⟩ := hh
 obtain ⟨a', b', c', d'⟩ := hh'
 simp only at h1 h3 k1 k2 k3 k4
 subst h1 h3 k1 k2 k3 k4
 rfl
theorem eqO_comm (o o' : OrgV) : eqO o o' = eqO o' o := by
 rw [Bool.eq_iff_iff]
 constructor
 ·intro h; rw [eqO_eq h]; exact eqO_same _
 ·intro h; rw [eqO_eq h]; exact eqO_same _
theorem siteOf_ok (u : UrlV) (l : List (List UInt8)) : (siteOf u l).2 = (orgOf u).2 := by
 unfold siteOf
 generalize orgOf u = oo
 obtain ⟨o, ok⟩ := oo
 cases ok <;> rfl
theorem siteOf_congr {u v : UrlV} {l : List (List UInt8)} (h : orgOf u = orgOf v) : siteOf u l = siteOf v l := by
 unfold siteOf; rw [h]
theorem siteOf_same {u v : UrlV} {l : List (List UInt8)} (h1 : (orgOf u).2 = true) (h2 : (orgOf v).2 = true) (h3 : eqO (orgOf u).1 (orgOf v).1 = true) : siteOf u l = siteOf v l := by
 refine siteOf_congr (Prod.ext (eqO_eq h3) (h1.trans h2.symm))
theorem neq_of_eql {P : Program} {t : TypeId} {fs : Array Field} {xs ys : List AV} {b : Bool} (hg : P.eqGuardType P.depth t = false) (hd : P.underlying t = some (.struct fs)) (hsi : P.stoodInHeld t = false) (h : bin P .eql t (.agg xs) (.agg ys) = some (.b b)) : bin P .neq t (.agg xs) (.agg ys) = some (.b (!b)) := by
 have h2 := eqFs_of_bin hg hd hsi h
 show binAgg P .neq t xs ys = _
 unfold binAgg
 rw [if_pos hg, hd]
 simp only
 rw [if_pos hsi, h2]
 rfl
theorem bin_orgN (o o' : OrgV) (h8 : o.h.l.length = 8) (h8' : o'.h.l.length = 8) : bin Tryz.prog .neq 37 (.agg o.cells) (.agg o'.cells) = some (.b (!eqO o o')) := neq_of_eql guardO Tryz.underlying37 stoodO (bin_org o o' h8 h8')
section
variable (u : UrlV) (p : AV)
theorem u_s18 (h8 : u.host.l.length = 8) (q : AV) : (ucells u p).set 18 q = ucells u q := by
 have hl := hcells_len' u.host h8
 unfold ucells
 generalize u.host.cells = cs at *
 match cs, hl with
 | [_, _, _, _, _, _, _, _, _, _, _], _ => rfl
theorem u_s19 (h8 : u.host.l.length = 8) (t : Bool) : (ucells u p).set 19 (.b t) = ucells { u with hasQ := t } p := by
 have hl := hcells_len' u.host h8
 unfold ucells
 simp only
 generalize u.host.cells = cs at *
 match cs, hl with
 | [_, _, _, _, _, _, _, _, _, _, _], _ => rfl
theorem u_s20 (h8 : u.host.l.length = 8) (x : List UInt8) : (ucells u p).set 20 (.str x) = ucells { u with q := x } p := by
 have hl := hcells_len' u.host h8
 unfold ucells
 simp only
 generalize u.host.cells = cs at *
 match cs, hl with
 | [_, _, _, _, _, _, _, _, _, _, _], _ => rfl
end
def OTHER : List UInt8 := [111, 116, 104, 101, 114]
def SOMEB : List UInt8 := [115, 111, 109, 101, 98, 111, 100, 121]
def withW (u : UrlV) : UrlV := { u with user := SOMEB, path := [OTHER], hasQ := true, q := [113] }
theorem orgOf_withW (u : UrlV) : orgOf (withW u) = orgOf u := rfl
theorem withW_fine {u : UrlV} (hu : u.fine) : (withW u).fine := by
 obtain ⟨f1, f2, f3, f4, f5, f6, f7, f8, f9, hfin, p0, p1⟩ := hu
 refine ⟨f1, by show (8 : Nat) ≤ _; omega, f3, f4, f5, by show (1 : Nat) ≤ _; omega, f7, by show 1 * 16 ≤ _; omega, ?_, hfin, p0, p1⟩
 intro x hx
 have : x = OTHER := by simpa [withW] using hx
 subst this
 show (5 : Nat) ≤ _
 omega
end Hs
end Go.Proofs
