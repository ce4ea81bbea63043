/- The law of whose addresses are. (Printed by gen_sig.py.) -/
import Derived.Test.YtpbemfiedmfpiaaGreatDoorSiF
import Derived.Test.YtpbemfiedmfpiaaGreatDoorUrAllax0
set_option linter.unusedVariables false
set_option linter.unusedSimpArgs false
namespace Go.Proofs
open Go.Lv
namespace Hs
open Pu Ut Utf In
variable {H : Heap}
theorem first11_e {Q : K (AV → Heap → Prop)} : @rF Tryz.prog cfg 31 [] H Q = Q.v (.b true) H := rF_eq sprlaw11_first_w
theorem copyT_r (l : List (List UInt8)) (hl : l.length ≤ 1000000) : WF Tryz.prog cfg 35 [.sl (l.map AV.str)] H (fun r H' => r = .sl (l.map AV.str) ∧ H' = H) := by
 have hm : ∀ d, cfg.muF 35 d = (false) := fun _ => rfl
 have hz : ∀ d, cfg.fzF 35 d = (false) := fun _ => rfl
 have ht : ∀ d, cfg.tkF 35 d = (false) := fun _ => rfl
 have hr_ : ∀ g, cfg.raw g = (g == 253 || g == 225 || g == 53) := fun _ => rfl
 refine rF_fn rfl rfl Tryz.func35 rfl ?_
 repeat' first|simp (disch:=first|omega|assumption|decide) only[go_sem,hm,hz,ht,hr_]|(apply ifP_in<;>intro)
theorem copyT_e {l : List (List UInt8)} (hl : l.length ≤ 1000000) {Q : K (AV → Heap → Prop)} : @rF Tryz.prog cfg 35 [.sl (l.map AV.str)] H Q = Q.v (.sl (l.map AV.str)) H := rF_eq (copyT_r l hl)
theorem eqO_same (o : OrgV) : eqO o o = true := by
 unfold eqO hostE eqH
 simp
theorem reg_len (name : List UInt8) (l : List (List UInt8)) : (Si.reg name l).length ≤ name.length := by
 by_cases h : (Si.suffix name l).length = name.length
 ·unfold Si.reg; rw [if_pos h]; exact Nat.le_refl _
 ·have := (Si.reg_alike name l h).2
  rw [← this]; simp
theorem org0_good : org0.good := by
 refine ⟨by show (0 : Nat) ≤ _; omega, ⟨rfl, ?_, by show (0 : Int) ≤ 0; omega, by show (0 : Int) < _; omega⟩, by show (0 : Nat) ≤ _; omega, by show _ ≤ (0 : Int); omega, by show (0 : Int) ≤ _; omega⟩
 intro x hx
 have : x = 0 := by simpa [org0, Ho.zeros] using hx
 subst this
 omega
theorem org_good {u : UrlV} (hu : u.fine) (hs : u.small) : (orgOf u).1.good := by
 obtain ⟨f1, f2, f3, f4, f5, f6, f7, f8, f9, hfin, p0, p1⟩ := hu
 obtain ⟨_, _, h⟩ := hs
 unfold few0 at h
 have hr := spec_rng u.scheme
 unfold orgOf
 split
 ·exact org0_good
 ·refine ⟨by simp only; omega, hfin, by simp only; omega, ?_, ?_⟩
  ·simp only; split <;> omega
  ·simp only; split <;> omega
theorem site_good {u : UrlV} (hu : u.fine) (hs : u.small) (l : List (List UInt8)) : (siteOf u l).1.good := by
 have hg := org_good hu hs
 unfold siteOf
 generalize orgOf u = oo at *
 obtain ⟨o, ok⟩ := oo
 simp only at hg ⊢
 split
 ·obtain ⟨g1, g2, g3, g4, g5⟩ := hg
  simp only
  split
  ·exact ⟨g1, ⟨g2.1, g2.2.1, g2.2.2.1, g2.2.2.2⟩, by have := reg_len o.h.n l; simp only; omega, by simp only; omega, by simp only; omega⟩
  ·exact ⟨g1, g2, g3, by simp only; omega, by simp only; omega⟩
 ·exact hg
set_option maxRecDepth 100000 in
set_option maxHeartbeats 16000000 in
theorem asks_w (u v : UrlV) (l : List (List UInt8)) (name : List UInt8) (hu : u.fine) (hv : v.fine) (hl : l.length * 16 ≤ 140737488351232 ∧ ∀ a ∈ l, a.length ≤ 140737488351232) (hn : name.length ≤ 140737488351232) : WF Tryz.prog cfg 12 [.agg u.cells, .agg v.cells, .sl (l.map AV.str), .str name] H (fun r H' => r = .b true) := by
 have h8 := hu.2.2.2.2.2.2.2.2.2.1.1
 have h8' := hv.2.2.2.2.2.2.2.2.2.1.1
 have hfu := fun {H : Heap} => few_w9 (H := H) u hu
 have hfv := fun {H : Heap} => few_w9 (H := H) v hv
 have hfs := fun {H : Heap} => few_wS (H := H) l (by omega) (fun x hx => by have := hl.2 x hx; omega)
 have hor := fun {H : Heap} => origin_w (H := H) u hu
 have hor' := fun {H : Heap} => origin_r (H := H) u hu
 have hsi := fun {H : Heap} (hs : u.small) (hl : smallS l) => site_w (H := H) u l hu hs hl
 have hsi' := fun {H : Heap} (hs : u.small) (hl : smallS l) => site_r (H := H) u l hu hs hl
 have hso := fun {H : Heap} => same_wO (H := H) u v hu hv
 have hso' := fun {H : Heap} => same_rO (H := H) u v hu hv
 have htx := fun {H : Heap} (hs : u.small) => text_wO (H := H) (orgOf u).1 (org_good hu hs)
 have htx' := fun {H : Heap} (hs : u.small) => text_rO (H := H) (orgOf u).1 (org_good hu hs)
 have hty := fun {H : Heap} (hs : u.small) => text_wO (H := H) (siteOf u l).1 (site_good hu hs l)
 have hty' := fun {H : Heap} (hs : u.small) => text_rO (H := H) (siteOf u l).1 (site_good hu hs l)
 have hoo := fun {H : Heap} => orgEq_r (H := H) (orgOf u).1 (orgOf u).1 (org_fine hu) (org_fine hu)
 have hss := fun {H : Heap} (hs : u.small) => orgEq_r (H := H) (siteOf u l).1 (siteOf u l).1 (site_good hu hs l).2.1.1 (site_good hu hs l).2.1.1
 have htt := fun {H : Heap} => texts_r (H := H) l l (by omega) (by omega) (.inl rfl) (.inl rfl)
 have hsmall := fun h => fewB_small (u := u) hu h
 have hm : ∀ d, cfg.muF 12 d = (false) := fun _ => rfl
 have hz : ∀ d, cfg.fzF 12 d = (false) := fun _ => rfl
 have ht : ∀ d, cfg.tkF 12 d = (false) := fun _ => rfl
 have hr_ : ∀ g, cfg.raw g = (g == 253 || g == 225 || g == 53) := fun _ => rfl
 refine rF_fn rfl rfl Tryz.func12 rfl ?_
 have a1 := u_one u (pathC u) rfl
 have a2 := u_len u (pathC u) h8
 have a3 := fun {x : Option AV} => u_pl u (pathC u) rfl (x := x)
 have a4 := u_take u (pathC u) h8
 have b1 := u_one v (pathC v) rfl
 have b2 := u_len v (pathC v) h8'
 have b3 := fun {x : Option AV} => u_pl v (pathC v) rfl (x := x)
 have b4 := u_take v (pathC v) h8'
 have q1 := o_len (orgOf u).1 (org_fine hu)
 have q2 := o_one (orgOf u).1
 have q3 := fun {x : Option AV} => o_pl (orgOf u).1 (x := x)
 have q4 := o_take (orgOf u).1 (org_fine hu)
 have r1 := fun (hs : u.small) => o_len (siteOf u l).1 (site_good hu hs l).2.1.1
 have r2 := o_one (siteOf u l).1
 have r3 := fun {x : Option AV} => o_pl (siteOf u l).1 (x := x)
 have r4 := fun (hs : u.small) => o_take (siteOf u l).1 (site_good hu hs l).2.1.1
 unfold UrlV.cells at *
 generalize ucells u (pathC u) = ca at *
 generalize ucells v (pathC v) = cb at *
 rw [eqO_same] at hoo
 simp only [eqO_same] at hss
 rw [decide_eq_true rfl] at htt
 generalize orgT (orgOf u).1 = tx at *
 generalize orgT (siteOf u l).1 = ty at *
 generalize (orgOf u).1.cells = c0 at *
 generalize (siteOf u l).1.cells = c1 at *
 generalize (orgOf u).2 = ok at *
 generalize (siteOf u l).2 = sk at *
 repeat' first|simp (disch:=first|omega|assumption|decide) only[go_sem,hm,hz,ht,hr_,first11_e,a1,a2,a3,a4,b1,b2,b3,b4,Nat.le_refl,if_true,g2a,g2b,wdl,bind_some_,map_some_,oneD_fold]|(apply ifP_in<;>intro)
 refine rF_use hfu ?_
 rintro _ K1 ⟨rfl, e1⟩
 have gA0 : (H ++ [ca] ++ [cb])[H.length]? = some ca := by simp
 have gB0 : (H ++ [ca] ++ [cb])[H.length + 1]? = some cb := by simp
 have gA1 := pre_getV e1 gA0
 have gB1 := pre_getV e1 gB0
 cases hfb : fewB u with
 | false =>
  repeat' first|simp (disch:=first|omega|assumption|decide) only[go_sem,hm,hz,ht,hr_,first11_e,a1,a2,a3,a4,b1,b2,b3,b4,Nat.le_refl,if_true,gA1,gB1,wdl,bind_some_,map_some_,oneD_fold]|(apply ifP_in<;>intro)
 | true =>
  have hs := hsmall hfb
  have hsi := fun {H : Heap} => hsi (H := H) hs
  have hsi' := fun {H : Heap} => hsi' (H := H) hs
  have htx := fun {H : Heap} => htx (H := H) hs
  have htx' := fun {H : Heap} => htx' (H := H) hs
  have hty := fun {H : Heap} => hty (H := H) hs
  have hty' := fun {H : Heap} => hty' (H := H) hs
  have hss := fun {H : Heap} => hss (H := H) hs
  have r1 := r1 hs
  have r4 := r4 hs
  repeat' first|simp (disch:=first|omega|assumption|decide) only[go_sem,hm,hz,ht,hr_,first11_e,a1,a2,a3,a4,b1,b2,b3,b4,Nat.le_refl,if_true,gA1,gB1,wdl,bind_some_,map_some_,oneD_fold]|(apply ifP_in<;>intro)
  refine rF_use hfv ?_
  rintro _ K2 ⟨rfl, e2⟩
  have gA2 := pre_getV e2 gA1
  have gB2 := pre_getV e2 gB1
  cases hfb2 : fewB v with
  | false =>
   repeat' first|simp (disch:=first|omega|assumption|decide) only[go_sem,hm,hz,ht,hr_,first11_e,a1,a2,a3,a4,b1,b2,b3,b4,Nat.le_refl,if_true,gA2,gB2,wdl,bind_some_,map_some_,oneD_fold]|(apply ifP_in<;>intro)
  | true =>
   repeat' first|simp (disch:=first|omega|assumption|decide) only[go_sem,hm,hz,ht,hr_,first11_e,a1,a2,a3,a4,b1,b2,b3,b4,Nat.le_refl,if_true,gA2,gB2,wdl,bind_some_,map_some_,oneD_fold]|(apply ifP_in<;>intro)
   refine rF_use hfs ?_
   rintro _ K3 ⟨rfl | ⟨rfl, hsS⟩, rfl⟩
   ·repeat' first|simp (disch:=first|omega|assumption|decide) only[go_sem,hm,hz,ht,hr_,first11_e,a1,a2,a3,a4,b1,b2,b3,b4,Nat.le_refl,if_true,gA2,gB2,wdl,bind_some_,map_some_,oneD_fold]|(apply ifP_in<;>intro)
   by_cases hnl : 2000 < name.length
   ·repeat' first|simp (disch:=first|omega|assumption|decide) only[go_sem,hm,hz,ht,hr_,first11_e,a1,a2,a3,a4,b1,b2,b3,b4,Nat.le_refl,if_true,gA2,gB2,wdl,bind_some_,map_some_,oneD_fold]|(apply ifP_in<;>intro)
   have hsi := fun {H : Heap} => hsi (H := H) hsS
   have hsi' := fun {H : Heap} => hsi' (H := H) hsS
   have hcl : l.length ≤ 1000000 := by have := hsS.1; omega
   have hnn : name.length ≤ 1000000 := by omega
   have hswe := fun {H : Heap} {Q : K (AV → Heap → Prop)} => suffix_we (H := H) (name := name) hnn hsS (Q := Q)
   have hsre := fun {H : Heap} {Q : K (AV → Heap → Prop)} => suffix_re (H := H) (name := name) hnn hsS (Q := Q)
   repeat' first|simp (disch:=first|omega|assumption|decide) only[go_sem,hm,hz,ht,hr_,first11_e,a1,a2,a3,a4,b1,b2,b3,b4,Nat.le_refl,if_true,copyT_e,ZO,storeE,zo_len,zo_one,zo_pl,zo_take,q1,q2,q3,q4,r1,r2,r3,r4,gA2,gB2,wdl,bind_some_,map_some_,oneD_fold]|(apply ifP_in<;>intro)
   refine rF_use hor ?_
   rintro _ L1 ⟨rfl, x1⟩
   have yA1 := pre_getV x1 gA2
   have yB1 := pre_getV x1 gB2
   have z1 : (L1 ++ [zo])[L1.length]? = some zo := by simp
   have v1 : (L1 ++ [c0])[L1.length]? = some c0 := by simp
   have w1 := List.prefix_append L1 [c0]
   have uA1 := pre_getV w1 yA1
   have uB1 := pre_getV w1 yB1
   repeat' first|simp (disch:=first|omega|assumption|decide) only[go_sem,hm,hz,ht,hr_,first11_e,a1,a2,a3,a4,b1,b2,b3,b4,Nat.le_refl,if_true,copyT_e,ZO,storeE,zo_len,zo_one,zo_pl,zo_take,q1,q2,q3,q4,r1,r2,r3,r4,gA2,gB2,yA1,yB1,uA1,uB1,z1,v1,wdl,bind_some_,map_some_,oneD_fold]|(apply ifP_in<;>intro)
   refine rF_use hor' ?_
   rintro _ L2 ⟨rfl, x2⟩
   have yA2 := pre_getV x2 uA1
   have yB2 := pre_getV x2 uB1
   have ya2 := pre_getV x2 v1
   have z2 : (L2 ++ [zo])[L2.length]? = some zo := by simp
   have v2 : (L2 ++ [c0])[L2.length]? = some c0 := by simp
   have w2 := List.prefix_append L2 [c0]
   have uA2 := pre_getV w2 yA2
   have uB2 := pre_getV w2 yB2
   have ua2 := pre_getV w2 ya2
   repeat' first|simp (disch:=first|omega|assumption|decide) only[go_sem,hm,hz,ht,hr_,first11_e,a1,a2,a3,a4,b1,b2,b3,b4,Nat.le_refl,if_true,copyT_e,ZO,storeE,zo_len,zo_one,zo_pl,zo_take,q1,q2,q3,q4,r1,r2,r3,r4,gA2,gB2,yA1,yB1,uA1,uB1,z1,v1,yA2,yB2,ya2,uA2,uB2,ua2,z2,v2,wdl,bind_some_,map_some_,oneD_fold]|(apply ifP_in<;>intro)
   refine rF_use hsi ?_
   rintro _ L3 ⟨rfl, x3⟩
   have yA3 := pre_getV x3 uA2
   have yB3 := pre_getV x3 uB2
   have ya3 := pre_getV x3 ua2
   have yb3 := pre_getV x3 v2
   have z3 : (L3 ++ [zo])[L3.length]? = some zo := by simp
   have v3 : (L3 ++ [c1])[L3.length]? = some c1 := by simp
   have w3 := List.prefix_append L3 [c1]
   have uA3 := pre_getV w3 yA3
   have uB3 := pre_getV w3 yB3
   have ua3 := pre_getV w3 ya3
   have ub3 := pre_getV w3 yb3
   repeat' first|simp (disch:=first|omega|assumption|decide) only[go_sem,hm,hz,ht,hr_,first11_e,a1,a2,a3,a4,b1,b2,b3,b4,Nat.le_refl,if_true,copyT_e,ZO,storeE,zo_len,zo_one,zo_pl,zo_take,q1,q2,q3,q4,r1,r2,r3,r4,gA2,gB2,yA1,yB1,uA1,uB1,z1,v1,yA2,yB2,ya2,uA2,uB2,ua2,z2,v2,yA3,yB3,ya3,yb3,uA3,uB3,ua3,ub3,z3,v3,wdl,bind_some_,map_some_,oneD_fold]|(apply ifP_in<;>intro)
   refine rF_use hsi' ?_
   rintro _ L4 ⟨rfl, x4⟩
   have yA4 := pre_getV x4 uA3
   have yB4 := pre_getV x4 uB3
   have ya4 := pre_getV x4 ua3
   have yb4 := pre_getV x4 ub3
   have yc4 := pre_getV x4 v3
   have z4 : (L4 ++ [zo])[L4.length]? = some zo := by simp
   have v4 : (L4 ++ [c1])[L4.length]? = some c1 := by simp
   have w4 := List.prefix_append L4 [c1]
   have uA4 := pre_getV w4 yA4
   have uB4 := pre_getV w4 yB4
   have ua4 := pre_getV w4 ya4
   have ub4 := pre_getV w4 yb4
   have uc4 := pre_getV w4 yc4
   repeat' first|simp (disch:=first|omega|assumption|decide) only[go_sem,hm,hz,ht,hr_,first11_e,a1,a2,a3,a4,b1,b2,b3,b4,Nat.le_refl,if_true,copyT_e,ZO,storeE,zo_len,zo_one,zo_pl,zo_take,q1,q2,q3,q4,r1,r2,r3,r4,gA2,gB2,yA1,yB1,uA1,uB1,z1,v1,yA2,yB2,ya2,uA2,uB2,ua2,z2,v2,yA3,yB3,ya3,yb3,uA3,uB3,ua3,ub3,z3,v3,yA4,yB4,ya4,yb4,yc4,uA4,uB4,ua4,ub4,uc4,z4,v4,wdl,bind_some_,map_some_,oneD_fold]|(apply ifP_in<;>intro)
   refine rF_use hoo ?_
   rintro _ M1 ⟨rfl, m1⟩
   have nA1 := pre_getV m1 uA4
   have nB1 := pre_getV m1 uB4
   have na1 := pre_getV m1 ua4
   have nb1 := pre_getV m1 ub4
   have nc1 := pre_getV m1 uc4
   have nd1 := pre_getV m1 v4
   repeat' first|simp (disch:=first|omega|assumption|decide) only[go_sem,hm,hz,ht,hr_,first11_e,a1,a2,a3,a4,b1,b2,b3,b4,Nat.le_refl,if_true,copyT_e,ZO,storeE,zo_len,zo_one,zo_pl,zo_take,q1,q2,q3,q4,r1,r2,r3,r4,hswe,hsre,beq_self_eq_true,gA2,gB2,yA1,yB1,uA1,uB1,z1,v1,yA2,yB2,ya2,uA2,uB2,ua2,z2,v2,yA3,yB3,ya3,yb3,uA3,uB3,ua3,ub3,z3,v3,yA4,yB4,ya4,yb4,yc4,uA4,uB4,ua4,ub4,uc4,z4,v4,nA1,nB1,na1,nb1,nc1,nd1,wdl,bind_some_,map_some_,oneD_fold]|(apply ifP_in<;>intro)
   refine rF_use hss ?_
   rintro _ M2 ⟨rfl, m2⟩
   have nA2 := pre_getV m2 nA1
   have nB2 := pre_getV m2 nB1
   have na2 := pre_getV m2 na1
   have nb2 := pre_getV m2 nb1
   have nc2 := pre_getV m2 nc1
   have nd2 := pre_getV m2 nd1
   repeat' first|simp (disch:=first|omega|assumption|decide) only[go_sem,hm,hz,ht,hr_,first11_e,a1,a2,a3,a4,b1,b2,b3,b4,Nat.le_refl,if_true,copyT_e,ZO,storeE,zo_len,zo_one,zo_pl,zo_take,q1,q2,q3,q4,r1,r2,r3,r4,hswe,hsre,beq_self_eq_true,gA2,gB2,yA1,yB1,uA1,uB1,z1,v1,yA2,yB2,ya2,uA2,uB2,ua2,z2,v2,yA3,yB3,ya3,yb3,uA3,uB3,ua3,ub3,z3,v3,yA4,yB4,ya4,yb4,yc4,uA4,uB4,ua4,ub4,uc4,z4,v4,nA1,nB1,na1,nb1,nc1,nd1,nA2,nB2,na2,nb2,nc2,nd2,wdl,bind_some_,map_some_,oneD_fold]|(apply ifP_in<;>intro)
   refine rF_use hso ?_
   rintro _ M3 ⟨rfl, m3⟩
   have nA3 := pre_getV m3 nA2
   have nB3 := pre_getV m3 nB2
   have na3 := pre_getV m3 na2
   have nb3 := pre_getV m3 nb2
   have nc3 := pre_getV m3 nc2
   have nd3 := pre_getV m3 nd2
   repeat' first|simp (disch:=first|omega|assumption|decide) only[go_sem,hm,hz,ht,hr_,first11_e,a1,a2,a3,a4,b1,b2,b3,b4,Nat.le_refl,if_true,copyT_e,ZO,storeE,zo_len,zo_one,zo_pl,zo_take,q1,q2,q3,q4,r1,r2,r3,r4,hswe,hsre,beq_self_eq_true,gA2,gB2,yA1,yB1,uA1,uB1,z1,v1,yA2,yB2,ya2,uA2,uB2,ua2,z2,v2,yA3,yB3,ya3,yb3,uA3,uB3,ua3,ub3,z3,v3,yA4,yB4,ya4,yb4,yc4,uA4,uB4,ua4,ub4,uc4,z4,v4,nA1,nB1,na1,nb1,nc1,nd1,nA2,nB2,na2,nb2,nc2,nd2,nA3,nB3,na3,nb3,nc3,nd3,wdl,bind_some_,map_some_,oneD_fold]|(apply ifP_in<;>intro)
   refine rF_use hso' ?_
   rintro _ M4 ⟨rfl, m4⟩
   have nA4 := pre_getV m4 nA3
   have nB4 := pre_getV m4 nB3
   have na4 := pre_getV m4 na3
   have nb4 := pre_getV m4 nb3
   have nc4 := pre_getV m4 nc3
   have nd4 := pre_getV m4 nd3
   repeat' first|simp (disch:=first|omega|assumption|decide) only[go_sem,hm,hz,ht,hr_,first11_e,a1,a2,a3,a4,b1,b2,b3,b4,Nat.le_refl,if_true,copyT_e,ZO,storeE,zo_len,zo_one,zo_pl,zo_take,q1,q2,q3,q4,r1,r2,r3,r4,hswe,hsre,beq_self_eq_true,gA2,gB2,yA1,yB1,uA1,uB1,z1,v1,yA2,yB2,ya2,uA2,uB2,ua2,z2,v2,yA3,yB3,ya3,yb3,uA3,uB3,ua3,ub3,z3,v3,yA4,yB4,ya4,yb4,yc4,uA4,uB4,ua4,ub4,uc4,z4,v4,nA1,nB1,na1,nb1,nc1,nd1,nA2,nB2,na2,nb2,nc2,nd2,nA3,nB3,na3,nb3,nc3,nd3,nA4,nB4,na4,nb4,nc4,nd4,wdl,bind_some_,map_some_,oneD_fold]|(apply ifP_in<;>intro)
   refine rF_use htx ?_
   rintro _ M5 ⟨rfl, m5⟩
   have nA5 := pre_getV m5 nA4
   have nB5 := pre_getV m5 nB4
   have na5 := pre_getV m5 na4
   have nb5 := pre_getV m5 nb4
   have nc5 := pre_getV m5 nc4
   have nd5 := pre_getV m5 nd4
   repeat' first|simp (disch:=first|omega|assumption|decide) only[go_sem,hm,hz,ht,hr_,first11_e,a1,a2,a3,a4,b1,b2,b3,b4,Nat.le_refl,if_true,copyT_e,ZO,storeE,zo_len,zo_one,zo_pl,zo_take,q1,q2,q3,q4,r1,r2,r3,r4,hswe,hsre,beq_self_eq_true,gA2,gB2,yA1,yB1,uA1,uB1,z1,v1,yA2,yB2,ya2,uA2,uB2,ua2,z2,v2,yA3,yB3,ya3,yb3,uA3,uB3,ua3,ub3,z3,v3,yA4,yB4,ya4,yb4,yc4,uA4,uB4,ua4,ub4,uc4,z4,v4,nA1,nB1,na1,nb1,nc1,nd1,nA2,nB2,na2,nb2,nc2,nd2,nA3,nB3,na3,nb3,nc3,nd3,nA4,nB4,na4,nb4,nc4,nd4,nA5,nB5,na5,nb5,nc5,nd5,wdl,bind_some_,map_some_,oneD_fold]|(apply ifP_in<;>intro)
   refine rF_use htx' ?_
   rintro _ M6 ⟨rfl, m6⟩
   have nA6 := pre_getV m6 nA5
   have nB6 := pre_getV m6 nB5
   have na6 := pre_getV m6 na5
   have nb6 := pre_getV m6 nb5
   have nc6 := pre_getV m6 nc5
   have nd6 := pre_getV m6 nd5
   repeat' first|simp (disch:=first|omega|assumption|decide) only[go_sem,hm,hz,ht,hr_,first11_e,a1,a2,a3,a4,b1,b2,b3,b4,Nat.le_refl,if_true,copyT_e,ZO,storeE,zo_len,zo_one,zo_pl,zo_take,q1,q2,q3,q4,r1,r2,r3,r4,hswe,hsre,beq_self_eq_true,gA2,gB2,yA1,yB1,uA1,uB1,z1,v1,yA2,yB2,ya2,uA2,uB2,ua2,z2,v2,yA3,yB3,ya3,yb3,uA3,uB3,ua3,ub3,z3,v3,yA4,yB4,ya4,yb4,yc4,uA4,uB4,ua4,ub4,uc4,z4,v4,nA1,nB1,na1,nb1,nc1,nd1,nA2,nB2,na2,nb2,nc2,nd2,nA3,nB3,na3,nb3,nc3,nd3,nA4,nB4,na4,nb4,nc4,nd4,nA5,nB5,na5,nb5,nc5,nd5,nA6,nB6,na6,nb6,nc6,nd6,wdl,bind_some_,map_some_,oneD_fold]|(apply ifP_in<;>intro)
   refine rF_use hty ?_
   rintro _ M7 ⟨rfl, m7⟩
   have nA7 := pre_getV m7 nA6
   have nB7 := pre_getV m7 nB6
   have na7 := pre_getV m7 na6
   have nb7 := pre_getV m7 nb6
   have nc7 := pre_getV m7 nc6
   have nd7 := pre_getV m7 nd6
   repeat' first|simp (disch:=first|omega|assumption|decide) only[go_sem,hm,hz,ht,hr_,first11_e,a1,a2,a3,a4,b1,b2,b3,b4,Nat.le_refl,if_true,copyT_e,ZO,storeE,zo_len,zo_one,zo_pl,zo_take,q1,q2,q3,q4,r1,r2,r3,r4,hswe,hsre,beq_self_eq_true,gA2,gB2,yA1,yB1,uA1,uB1,z1,v1,yA2,yB2,ya2,uA2,uB2,ua2,z2,v2,yA3,yB3,ya3,yb3,uA3,uB3,ua3,ub3,z3,v3,yA4,yB4,ya4,yb4,yc4,uA4,uB4,ua4,ub4,uc4,z4,v4,nA1,nB1,na1,nb1,nc1,nd1,nA2,nB2,na2,nb2,nc2,nd2,nA3,nB3,na3,nb3,nc3,nd3,nA4,nB4,na4,nb4,nc4,nd4,nA5,nB5,na5,nb5,nc5,nd5,nA6,nB6,na6,nb6,nc6,nd6,nA7,nB7,na7,nb7,nc7,nd7,wdl,bind_some_,map_some_,oneD_fold]|(apply ifP_in<;>intro)
   refine rF_use hty' ?_
   rintro _ M8 ⟨rfl, m8⟩
   have nA8 := pre_getV m8 nA7
   have nB8 := pre_getV m8 nB7
   have na8 := pre_getV m8 na7
   have nb8 := pre_getV m8 nb7
   have nc8 := pre_getV m8 nc7
   have nd8 := pre_getV m8 nd7
   repeat' first|simp (disch:=first|omega|assumption|decide) only[go_sem,hm,hz,ht,hr_,first11_e,a1,a2,a3,a4,b1,b2,b3,b4,Nat.le_refl,if_true,copyT_e,ZO,storeE,zo_len,zo_one,zo_pl,zo_take,q1,q2,q3,q4,r1,r2,r3,r4,hswe,hsre,beq_self_eq_true,gA2,gB2,yA1,yB1,uA1,uB1,z1,v1,yA2,yB2,ya2,uA2,uB2,ua2,z2,v2,yA3,yB3,ya3,yb3,uA3,uB3,ua3,ub3,z3,v3,yA4,yB4,ya4,yb4,yc4,uA4,uB4,ua4,ub4,uc4,z4,v4,nA1,nB1,na1,nb1,nc1,nd1,nA2,nB2,na2,nb2,nc2,nd2,nA3,nB3,na3,nb3,nc3,nd3,nA4,nB4,na4,nb4,nc4,nd4,nA5,nB5,na5,nb5,nc5,nd5,nA6,nB6,na6,nb6,nc6,nd6,nA7,nB7,na7,nb7,nc7,nd7,nA8,nB8,na8,nb8,nc8,nd8,wdl,bind_some_,map_some_,oneD_fold]|(apply ifP_in<;>intro)
   refine rF_use htt ?_
   rintro _ M9 ⟨rfl, rfl⟩
   repeat' first|simp (disch:=first|omega|assumption|decide) only[go_sem,hm,hz,ht,hr_,first11_e,a1,a2,a3,a4,b1,b2,b3,b4,Nat.le_refl,if_true,copyT_e,ZO,storeE,zo_len,zo_one,zo_pl,zo_take,q1,q2,q3,q4,r1,r2,r3,r4,beq_self_eq_true,gA2,gB2,yA1,yB1,uA1,uB1,z1,v1,yA2,yB2,ya2,uA2,uB2,ua2,z2,v2,yA3,yB3,ya3,yb3,uA3,uB3,ua3,ub3,z3,v3,yA4,yB4,ya4,yb4,yc4,uA4,uB4,ua4,ub4,uc4,z4,v4,nA1,nB1,na1,nb1,nc1,nd1,nA2,nB2,na2,nb2,nc2,nd2,nA3,nB3,na3,nb3,nc3,nd3,nA4,nB4,na4,nb4,nc4,nd4,nA5,nB5,na5,nb5,nc5,nd5,nA6,nB6,na6,nb6,nc6,nd6,nA7,nB7,na7,nb7,nc7,nd7,nA8,nB8,na8,nb8,nc8,nd8,wdl,bind_some_,map_some_,oneD_fold]|(apply ifP_in<;>intro)
end Hs
end Go.Proofs
