/- Walks: sites. -/
import Derived.Test.YtfkjkmjkfnephaaGreatDoorSiC
set_option linter.unusedVariables false
set_option linter.unusedSimpArgs false
namespace Go.Proofs
open Go.Lv
namespace Hs
open Pu Ut Utf In
variable {H : Heap}
def siteOf (u : UrlV) (l : List (List UInt8)) : OrgV × Bool := if (orgOf u).2 = true then (⟨(orgOf u).1.s, if (orgOf u).1.h.k = 1 then ⟨(orgOf u).1.h.k, Si.reg (orgOf u).1.h.n l, (orgOf u).1.h.v, (orgOf u).1.h.l⟩ else (orgOf u).1.h, 0⟩, true) else ((orgOf u).1, false)
theorem org_fine {u : UrlV} (hu : u.fine) : (orgOf u).1.h.l.length = 8 := by
 unfold orgOf
 split
 ·rfl
 ·exact hu.2.2.2.2.2.2.2.2.2.1.1
theorem org_name {u : UrlV} (hs : u.small) : (orgOf u).1.h.n.length ≤ 20000 := by
 obtain ⟨_, _, h⟩ := hs
 unfold few0 at h
 unfold orgOf
 split
 ·show (0 : Nat) ≤ 20000; omega
 ·simp only; omega
theorem o_k1s (o : OrgV) {s : Option Nat} : partD (some false) s o.cells 1 = some (.i o.h.k) := rfl
theorem o_k2 (o : OrgV) {s : Option Nat} : partD (some false) s o.cells 2 = some (.str o.h.n) := rfl
theorem o_set2 (o : OrgV) (n : List UInt8) : o.cells.set 2 (.str n) = (OrgV.cells ⟨o.s, ⟨o.h.k, n, o.h.v, o.h.l⟩, o.p⟩) := rfl
theorem site_w (u : UrlV) (l : List (List UInt8)) (hu : u.fine) (hs : u.small) (hl : smallS l) : WF Tryz.prog cfg 9 [.agg u.cells, .sl (l.map AV.str)] H (fun r H' => r = .tup [.agg (siteOf u l).1.cells, .b (siteOf u l).2] ∧ H <+: H') := by
 have h8 := hu.2.2.2.2.2.2.2.2.2.1.1
 have hor := fun {H : Heap} => origin_w (H := H) u hu
 have o8 := org_fine hu
 have on := org_name hs
 have hm : ∀ d, cfg.muF 9 d = (false) := fun _ => rfl
 have hz : ∀ d, cfg.fzF 9 d = (false) := fun _ => rfl
 have ht : ∀ d, cfg.tkF 9 d = (false) := fun _ => rfl
 have hr_ : ∀ g, cfg.raw g = (g == 147 || g == 130 || g == 57) := fun _ => rfl
 refine rF_fn rfl rfl Tryz.func9 rfl ?_
 unfold UrlV.cells at *
 have hone : (pathC u).one = true := rfl
 have ho := u_one u (pathC u) hone
 have hn := u_len u (pathC u) h8
 have hpl := fun {x : Option AV} => u_pl u (pathC u) hone (x := x)
 have htk := u_take u (pathC u) h8
 generalize ucells u (pathC u) = cs at *
 unfold siteOf
 generalize orgOf u = oo at *
 obtain ⟨o, ok⟩ := oo
 simp only at o8 on hor ⊢
 have q1 := o_len o o8
 have q2 := o_one o
 have q3 := fun {x : Option AV} => o_pl o (x := x)
 have q4 := o_take o o8
 repeat' first|simp (disch:=first|omega|assumption|decide) only[go_sem,hm,hz,ht,hr_,ho,hpl,hn,htk,Nat.le_refl,if_true,ZO,g2a,g2b,wdl,bind_some_,map_some_,oneD_fold]|(apply ifP_in<;>intro)
 refine rF_use hor ?_
 rintro _ K1 ⟨rfl, T, rfl⟩
 have gA : (H ++ [cs] ++ [zo] ++ T)[H.length]? = some cs := by simp
 have gB : (H ++ [cs] ++ [zo] ++ T)[H.length + 1]? = some zo := by rw [xgL (by simp)]; simp
 have hKp : H <+: H ++ [cs] ++ [zo] ++ T := preX2.trans (List.prefix_append _ _)
 have hKl : H.length + 2 ≤ (H ++ [cs] ++ [zo] ++ T).length := by simp only [List.length_append, List.length_cons, List.length_nil]; omega
 generalize H ++ [cs] ++ [zo] ++ T = K7 at *
 have gC : (K7 ++ [zo])[K7.length]? = some zo := by simp
 have gD : (K7 ++ [zo])[H.length + 1]? = some zo := by rw [xgL (by omega)]; exact gB
 have hlK : (K7 ++ [zo]).length = K7.length + 1 := by simp
 have hkp2 : H <+: K7 ++ [zo] := hKp.trans (List.prefix_append _ _)
 cases ok
 ·repeat' first|simp (disch:=first|omega|assumption|decide) only[go_sem,hm,hz,ht,hr_,ho,hpl,hn,htk,Nat.le_refl,if_true,ZO,gA,gB,gC,gD,hlK,storeF,storeSg,zo_len,zo_one,zo_pl,zo_take,q1,q2,q3,q4,wdl,bind_some_,map_some_,oneD_fold]|(apply ifP_in<;>intro)
  all_goals repeat' first | exact hKp | omega | (refine pre_set1 ?_ ?_ _) | exact hKp.trans (List.prefix_append _ _)
 ·obtain ⟨o1, ho1⟩ : ∃ o1 : OrgV, o1 = ⟨o.s, o.h, 0⟩ := ⟨_, rfl⟩
  have s1 : o.cells.set 12 (.i 0) = o1.cells := by rw [ho1]; exact o_set12 o o8 0
  have r1 := o_len o1 (by rw [ho1]; exact o8)
  have r2 := o_one o1
  have r3 := fun {x : Option AV} => o_pl o1 (x := x)
  have r4 := o_take o1 (by rw [ho1]; exact o8)
  have r5 : ∀ {s : Option Nat}, partD (some false) s o1.cells 1 = some (.i o.h.k) := fun {s} => by rw [ho1]; exact o_k1s _
  have r6 : ∀ {s : Option Nat}, partD (some false) s o1.cells 2 = some (.str o.h.n) := fun {s} => by rw [ho1]; exact o_k2 _
  by_cases ck : o.h.k = 1
  ·obtain ⟨o2, ho2⟩ : ∃ o2 : OrgV, o2 = ⟨o.s, ⟨o.h.k, Si.reg o.h.n l, o.h.v, o.h.l⟩, 0⟩ := ⟨_, rfl⟩
   have s2 : o1.cells.set 2 (.str (Si.reg o.h.n l)) = o2.cells := by rw [ho1, ho2]; exact o_set2 _ _
   have t1 := o_len o2 (by rw [ho2]; exact o8)
   have t2 := o_one o2
   have t3 := fun {x : Option AV} => o_pl o2 (x := x)
   have t4 := o_take o2 (by rw [ho2]; exact o8)
   have hrg := fun {H : Heap} => registered_w (H := H) o.h.n l (by omega) hl
   have ckD : decide (o.h.k = 1) = true := decide_eq_true ck
   have ckT : (o.h.k = 1) = True := eq_true ck
   rw [if_pos rfl, if_pos ck, ← ho2]
   clear ho1 ho2
   generalize o1.cells = c1 at *
   generalize o2.cells = c2 at *
   generalize o.cells = c0 at *
   generalize Si.reg o.h.n l = rg at *
   repeat' first|simp (disch:=first|omega|assumption|decide) only[go_sem,hm,hz,ht,hr_,ho,hpl,hn,htk,Nat.le_refl,if_true,ZO,gA,gB,gC,gD,hlK,storeF,storeSg,zo_len,zo_one,zo_pl,zo_take,q1,q2,q3,q4,s1,r1,r2,r3,r4,r5,r6,ckD,ckT,wdl,bind_some_,map_some_,oneD_fold]|(apply ifP_in<;>intro)
   refine rF_use hrg ?_
   rintro _ K2 ⟨rfl, rfl⟩
   repeat' first|simp (disch:=first|omega|assumption|decide) only[go_sem,hm,hz,ht,hr_,ho,hpl,hn,htk,Nat.le_refl,if_true,ZO,gA,gB,gC,gD,hlK,storeF,storeSg,zo_len,zo_one,zo_pl,zo_take,q1,q2,q3,q4,s1,r1,r2,r3,r4,r5,r6,ckD,ckT,s2,t1,t2,t3,t4,wdl,bind_some_,map_some_,oneD_fold]|(apply ifP_in<;>intro)
   all_goals repeat' first | exact hKp | omega | (refine pre_set1 ?_ ?_ _) | exact hKp.trans (List.prefix_append _ _)
  ·have ckD : decide (o.h.k = 1) = false := decide_eq_false ck
   have ckT : (o.h.k = 1) = False := eq_false ck
   rw [if_pos rfl, if_neg ck, ← ho1]
   clear ho1
   generalize o1.cells = c1 at *
   generalize o.cells = c0 at *
   repeat' first|simp (disch:=first|omega|assumption|decide) only[go_sem,hm,hz,ht,hr_,ho,hpl,hn,htk,Nat.le_refl,if_true,ZO,gA,gB,gC,gD,hlK,storeF,storeSg,zo_len,zo_one,zo_pl,zo_take,q1,q2,q3,q4,s1,r1,r2,r3,r4,r5,r6,ckD,ckT,wdl,bind_some_,map_some_,oneD_fold]|(apply ifP_in<;>intro)
   all_goals repeat' first | exact hKp | omega | (refine pre_set1 ?_ ?_ _) | exact hKp.trans (List.prefix_append _ _)
end Hs
end Go.Proofs
