/- The law of the same origin and the same site. (Printed by gen_sij.py.) -/
import Derived.Test.YtfkjkmjkfnephaaGreatDoorSiH
import Derived.Test.YtfkjkmjkfnephaaGreatDoorUrI
set_option linter.unusedVariables false
set_option linter.unusedSimpArgs false
namespace Go.Proofs
open Go.Lv
namespace Hs
open Pu Ut Utf In
variable {H : Heap}
theorem storeSE {K9 : Heap} {off : Nat} {a : AV} {cs : List AV} (hl : off < cs.length) (ho : cs.all AV.one = true) : storeS (K9 ++ [cs]) K9.length off a cs = some (K9 ++ [cs.set off a]) := by
 rw [storeSg hl ho]
 simp
theorem storeSE1 {K9 : Heap} {off : Nat} {a : AV} {x cs : List AV} (hl : off < cs.length) (ho : cs.all AV.one = true) : storeS (K9 ++ [x] ++ [cs]) (K9.length + 1) off a cs = some (K9 ++ [x] ++ [cs.set off a]) := by
 have := storeSE (K9 := K9 ++ [x]) (off := off) (a := a) hl ho
 simpa using this
theorem storeW1 {P : Program} {t : TypeId} [h1 : SizeIs P t 23] {K9 : Heap} {x ys zs : List AV} (hx : zs.length = 23) (hxo : zs.all AV.one = true) (hy : ys.length = 23) (hyo : ys.all AV.one = true) : storeC P t (K9 ++ [x] ++ [zs]) (K9.length + 1) 0 (.agg ys) zs = some (K9 ++ [x] ++ [ys]) := by
 have := storeW (H := K9 ++ [x]) (P := P) (t := t) hx hxo hy hyo
 simpa using this
theorem mtyO : mapTy Tryz.prog 44 = some (37, 3) := by unfold mapTy; rw [Tryz.underlying44]
set_option maxRecDepth 100000 in
theorem zero_iO : zeroV Tryz.prog 3 = some (.i 0) := by unfold zeroV Tables.info?; rw [Tryz.type3]; rfl
theorem upd_o (o : OrgV) (h8 : o.h.l.length = 8) {K9 : Heap} {y : Value} (hy : (AV.v y).one = true) : updateA Tryz.prog (K9 ++ [[.mv [] []]]) 44 (.mp K9.length) (.agg o.cells) (.v y) = some (K9 ++ [[.mv [.agg o.cells] [.v y]]]) := by
 have h := eqFs_of_bin guardO Tryz.underlying37 stoodO (bin_org o o h8 h8)
 rw [eqO_same] at h
 have h2 := upd_e (K9 := K9 ++ [[.mv [] []]]) (j := K9.length) mtyO Tryz.underlying37 stoodO h hy (by simp)
 rw [h2]
 simp
theorem look_o (o o' : OrgV) (h8 : o.h.l.length = 8) (h8' : o'.h.l.length = 8) {K9 : Heap} {x : AV} {j : Nat} (hj : K9[j]? = some [.mv [.agg o'.cells] [x]]) : lookupA Tryz.prog K9 44 (.mp j) (.agg o.cells) false = some (if eqO o o' = true then x else .i 0) := by
 have h := eqFs_of_bin guardO Tryz.underlying37 stoodO (bin_org o o' h8 h8')
 exact look_e mtyO Tryz.underlying37 stoodO h zero_iO hj
set_option maxRecDepth 100000 in
set_option maxHeartbeats 32000000 in
theorem same_all (u v : UrlV) (l : List (List UInt8)) (hu : u.fine) (hv : v.fine) (hl : l.length * 16 ≤ 140737488351232 ∧ ∀ a ∈ l, a.length ≤ 140737488351232) : WF Tryz.prog cfg 4 [.agg u.cells, .agg v.cells, .sl (l.map AV.str)] H (fun r H' => r = .b true) := by
 have h8 := hu.2.2.2.2.2.2.2.2.2.1.1
 have h8' := hv.2.2.2.2.2.2.2.2.2.1.1
 have hfu := fun {H : Heap} => few_w9 (H := H) u hu
 have hfv := fun {H : Heap} => few_w9 (H := H) v hv
 have hfs := fun {H : Heap} => few_wS (H := H) l (by omega) (fun x hx => by have := hl.2 x hx; omega)
 have hor := fun {H : Heap} => origin_w (H := H) u hu
 have hor' := fun {H : Heap} => origin_w (H := H) v hv
 have hsi := fun {H : Heap} (hs : u.small) (hl : smallS l) => site_w (H := H) u l hu hs hl
 have hsi' := fun {H : Heap} (hs : v.small) (hl : smallS l) => site_w (H := H) v l hv hs hl
 have hso := fun {H : Heap} => same_wO (H := H) u v hu hv
 have hso' := fun {H : Heap} => same_wO (H := H) v u hv hu
 have how := fun {H : Heap} => origin_w (H := H) (withW u) (withW_fine hu)
 have hsw := fun {H : Heap} => same_wO (H := H) u (withW u) hu (withW_fine hu)
 have hsmall := fun h => fewB_small (u := u) hu h
 have hsmall' := fun h => fewB_small (u := v) hv h
 have hwc : (withW u).cells = ucells (withW u) (.sl [AV.str OTHER]) := rfl
 rw [orgOf_withW] at how
 have hsw2 : sameO u (withW u) = ((orgOf u).2 && ((orgOf u).2 && eqO (orgOf u).1 (orgOf u).1)) := rfl
 rw [hsw2, eqO_same, Bool.and_true, Bool.and_self] at hsw
 have o8 := org_fine hu
 have p8 := org_fine hv
 have hbin1 := bin_org (orgOf u).1 (orgOf v).1 o8 p8
 have hbin2 := bin_org (orgOf u).1 (orgOf u).1 o8 o8
 have hcd := fun (hs : u.small) (hs' : v.small) => bin_orgN (siteOf u l).1 (siteOf v l).1 (site_good hu hs l).2.1.1 (site_good hv hs' l).2.1.1
 have hss := fun h1 h2 h3 => siteOf_same (u := u) (v := v) (l := l) h1 h2 h3
 have hsame : sameO u v = ((orgOf u).2 && ((orgOf v).2 && eqO (orgOf u).1 (orgOf v).1)) := rfl
 have hsame' : sameO v u = ((orgOf v).2 && ((orgOf u).2 && eqO (orgOf v).1 (orgOf u).1)) := rfl
 rw [hsame] at hso
 rw [hsame', eqO_comm (orgOf v).1] at hso'
 have hup := fun {K9 : Heap} => upd_o (orgOf u).1 o8 (K9 := K9) (y := .int .i64 3) rfl
 have hlk := fun {K9 : Heap} {j : Nat} (hj : K9[j]? = some [.mv [.agg (orgOf u).1.cells] [.i 3]]) => look_o (orgOf v).1 (orgOf u).1 p8 o8 hj
 rw [eqO_comm (orgOf v).1] at hlk
 rw [eqO_same] at hbin2
 have hok := siteOf_ok u l
 have hok' := siteOf_ok v l
 have hm : ∀ d, cfg.muF 4 d = (false) := fun _ => rfl
 have hz : ∀ d, cfg.fzF 4 d = (false) := fun _ => rfl
 have ht : ∀ d, cfg.tkF 4 d = (false) := fun _ => rfl
 have hr_ : ∀ g, cfg.raw g = (g == 147 || g == 130 || g == 57) := fun _ => rfl
 refine rF_fn rfl rfl Tryz.func4 rfl ?_
 have a1 := u_one u (pathC u) rfl
 have a2 := u_len u (pathC u) h8
 have a3 := fun {x : Option AV} => u_pl u (pathC u) rfl (x := x)
 have a4 := u_take u (pathC u) h8
 have b1 := u_one v (pathC v) rfl
 have b2 := u_len v (pathC v) h8'
 have b3 := fun {x : Option AV} => u_pl v (pathC v) rfl (x := x)
 have b4 := u_take v (pathC v) h8'
 have q1 := o_len (orgOf u).1 o8
 have q2 := o_one (orgOf u).1
 have q3 := fun {x : Option AV} => o_pl (orgOf u).1 (x := x)
 have q4 := o_take (orgOf u).1 o8
 have t1 := o_len (orgOf v).1 p8
 have t2 := o_one (orgOf v).1
 have t3 := fun {x : Option AV} => o_pl (orgOf v).1 (x := x)
 have t4 := o_take (orgOf v).1 p8
 have r1 := fun (hs : u.small) => o_len (siteOf u l).1 (site_good hu hs l).2.1.1
 have r2 := o_one (siteOf u l).1
 have r3 := fun {x : Option AV} => o_pl (siteOf u l).1 (x := x)
 have r4 := fun (hs : u.small) => o_take (siteOf u l).1 (site_good hu hs l).2.1.1
 have s1 := fun (hs : v.small) => o_len (siteOf v l).1 (site_good hv hs l).2.1.1
 have s2 := o_one (siteOf v l).1
 have s3 := fun {x : Option AV} => o_pl (siteOf v l).1 (x := x)
 have s4 := fun (hs : v.small) => o_take (siteOf v l).1 (site_good hv hs l).2.1.1
 have hOT : [111, 116, 104, 101, 114] = OTHER := rfl
 have hSB : [115, 111, 109, 101, 98, 111, 100, 121] = SOMEB := rfl
 obtain ⟨w1, hw1⟩ : ∃ w1, w1 = ucells u (.sl [AV.str OTHER]) := ⟨_, rfl⟩
 obtain ⟨w2, hw2⟩ : ∃ w2, w2 = ucells { u with q := [113] } (.sl [AV.str OTHER]) := ⟨_, rfl⟩
 obtain ⟨w3, hw3⟩ : ∃ w3, w3 = ucells { u with q := [113], hasQ := true } (.sl [AV.str OTHER]) := ⟨_, rfl⟩
 obtain ⟨w4, hw4⟩ : ∃ w4, w4 = ucells (withW u) (.sl [AV.str OTHER]) := ⟨_, rfl⟩
 have k1 : (ucells u (pathC u)).set 18 (.sl [AV.str OTHER]) = w1 := by rw [hw1]; exact u_s18 u _ h8 _
 have k2 : w1.set 20 (AV.str [113]) = w2 := by rw [hw1, hw2]; exact u_s20 u _ h8 _
 have k3 : w2.set 19 (AV.b true) = w3 := by rw [hw2, hw3]; exact u_s19 { u with q := [113] } _ h8 _
 have k4 : w3.set 1 (AV.str SOMEB) = w4 := by rw [hw3, hw4]; rfl
 have l1 : w1.length = 23 := by rw [hw1]; exact u_len _ _ h8
 have l2 : w2.length = 23 := by rw [hw2]; exact u_len _ _ h8
 have l3 : w3.length = 23 := by rw [hw3]; exact u_len _ _ h8
 have l4 : w4.length = 23 := by rw [hw4]; exact u_len _ _ h8
 have m1 : w1.all AV.one = true := by rw [hw1]; exact u_one _ _ rfl
 have m2 : w2.all AV.one = true := by rw [hw2]; exact u_one _ _ rfl
 have m3 : w3.all AV.one = true := by rw [hw3]; exact u_one _ _ rfl
 have m4 : w4.all AV.one = true := by rw [hw4]; exact u_one _ _ rfl
 have m5 : ∀ {x : Option AV}, plainD w4 x = x := fun {x} => by rw [hw4]; exact u_pl _ _ rfl
 have m6 : w4.take 23 = w4 := by rw [hw4]; exact u_take _ _ h8
 rw [hwc, ← hw4] at how hsw
 clear hw1 hw2 hw3 hw4 hwc hsw2 hsame hsame'
 unfold UrlV.cells at *
 generalize ucells u (pathC u) = ca at *
 generalize ucells v (pathC v) = cb at *
 rw [hok] at hsi
 rw [hok'] at hsi'
 have hsd : (orgOf u).2 = true → (orgOf v).2 = true → eqO (orgOf u).1 (orgOf v).1 = true → eqO (siteOf u l).1 (siteOf v l).1 = true := fun x y z => by rw [hss x y z]; exact eqO_same _
 clear hss hok hok'
 generalize (orgOf u).1.cells = c0 at *
 generalize (orgOf v).1.cells = d0 at *
 generalize (siteOf u l).1.cells = c1 at *
 generalize (siteOf v l).1.cells = d1 at *
 generalize (orgOf u).2 = ok at *
 generalize (orgOf v).2 = pk at *
 generalize eqO (orgOf u).1 (orgOf v).1 = eb at *
 generalize eqO (siteOf u l).1 (siteOf v l).1 = es at *
 repeat' first|simp (disch:=first|omega|assumption|decide) only[go_sem,hm,hz,ht,hr_,first11_e,a1,a2,a3,a4,b1,b2,b3,b4,Nat.le_refl,if_true,g2a,g2b,wdl,bind_some_,map_some_,oneD_fold]|(apply ifP_in<;>intro)
 refine rF_use hfu ?_
 rintro _ K1 ⟨rfl, e1⟩
 have gA0 : (H ++ [ca] ++ [cb])[H.length]? = some ca := by simp
 have gB0 : (H ++ [ca] ++ [cb])[H.length + 1]? = some cb := by simp
 have gA1 := pre_getV e1 gA0
 have gB1 := pre_getV e1 gB0
 cases hfb : fewB u with
 | false =>
  repeat' first|simp (disch:=first|omega|assumption|decide) only[go_sem,hm,hz,ht,hr_,first11_e,a1,a2,a3,a4,b1,b2,b3,b4,Nat.le_refl,if_true,gA1,gB1,wdl,bind_some_,map_some_,oneD_fold]|(apply ifP_in<;>intro)
 | true =>
  have hs := hsmall hfb
  repeat' first|simp (disch:=first|omega|assumption|decide) only[go_sem,hm,hz,ht,hr_,first11_e,a1,a2,a3,a4,b1,b2,b3,b4,Nat.le_refl,if_true,gA1,gB1,wdl,bind_some_,map_some_,oneD_fold]|(apply ifP_in<;>intro)
  refine rF_use hfv ?_
  rintro _ K2 ⟨rfl, e2⟩
  have gA2 := pre_getV e2 gA1
  have gB2 := pre_getV e2 gB1
  cases hfb2 : fewB v with
  | false =>
   repeat' first|simp (disch:=first|omega|assumption|decide) only[go_sem,hm,hz,ht,hr_,first11_e,a1,a2,a3,a4,b1,b2,b3,b4,Nat.le_refl,if_true,gA2,gB2,wdl,bind_some_,map_some_,oneD_fold]|(apply ifP_in<;>intro)
  | true =>
   have hs' := hsmall' hfb2
   have r1 := r1 hs
   have r4 := r4 hs
   have s1 := s1 hs'
   have s4 := s4 hs'
   have hcd := hcd hs hs'
   repeat' first|simp (disch:=first|omega|assumption|decide) only[go_sem,hm,hz,ht,hr_,first11_e,a1,a2,a3,a4,b1,b2,b3,b4,Nat.le_refl,if_true,gA2,gB2,wdl,bind_some_,map_some_,oneD_fold]|(apply ifP_in<;>intro)
   refine rF_use hfs ?_
   rintro _ K3 ⟨rfl | ⟨rfl, hsS⟩, rfl⟩
   ·repeat' first|simp (disch:=first|omega|assumption|decide) only[go_sem,hm,hz,ht,hr_,first11_e,a1,a2,a3,a4,b1,b2,b3,b4,Nat.le_refl,if_true,gA2,gB2,wdl,bind_some_,map_some_,oneD_fold]|(apply ifP_in<;>intro)
   have hsi := fun {H : Heap} => hsi (H := H) hs hsS
   have hsi' := fun {H : Heap} => hsi' (H := H) hs' hsS
   repeat' first|simp (disch:=first|omega|assumption|decide) only[go_sem,hm,hz,ht,hr_,first11_e,a1,a2,a3,a4,b1,b2,b3,b4,Nat.le_refl,if_true,ZO,ZU,storeE,storeW,storeSE,zo_len,zo_one,zo_pl,zo_take,zu_len,zu_one,q1,q2,q3,q4,r1,r2,r3,r4,s1,s2,s3,s4,t1,t2,t3,t4,hbin1,hbin2,hcd,hup,hlk,hOT,hSB,k1,k2,k3,k4,l1,l2,l3,l4,m1,m2,m3,m4,m5,m6,gA2,gB2,wdl,bind_some_,map_some_,oneD_fold]|(apply ifP_in<;>intro)
   refine rF_use hor ?_
   rintro _ L1 ⟨rfl, x1⟩
   have yA1 := pre_getV x1 gA2
   have yB1 := pre_getV x1 gB2
   have z1 : (L1 ++ [zo])[L1.length]? = some zo := by simp
   have v1 : (L1 ++ [c0])[L1.length]? = some c0 := by simp
   have w1_ := List.prefix_append L1 [c0]
   have uA1 := pre_getV w1_ yA1
   have uB1 := pre_getV w1_ yB1
   repeat' first|simp (disch:=first|omega|assumption|decide) only[go_sem,hm,hz,ht,hr_,first11_e,a1,a2,a3,a4,b1,b2,b3,b4,Nat.le_refl,if_true,ZO,ZU,storeE,storeW,storeSE,zo_len,zo_one,zo_pl,zo_take,zu_len,zu_one,q1,q2,q3,q4,r1,r2,r3,r4,s1,s2,s3,s4,t1,t2,t3,t4,hbin1,hbin2,hcd,hup,hlk,hOT,hSB,k1,k2,k3,k4,l1,l2,l3,l4,m1,m2,m3,m4,m5,m6,gA2,gB2,yA1,yB1,uA1,uB1,z1,v1,wdl,bind_some_,map_some_,oneD_fold]|(apply ifP_in<;>intro)
   refine rF_use hor' ?_
   rintro _ L2 ⟨rfl, x2⟩
   have yA2 := pre_getV x2 uA1
   have yB2 := pre_getV x2 uB1
   have ya2 := pre_getV x2 v1
   have z2 : (L2 ++ [zo])[L2.length]? = some zo := by simp
   have v2 : (L2 ++ [d0])[L2.length]? = some d0 := by simp
   have w2_ := List.prefix_append L2 [d0]
   have uA2 := pre_getV w2_ yA2
   have uB2 := pre_getV w2_ yB2
   have ua2 := pre_getV w2_ ya2
   repeat' first|simp (disch:=first|omega|assumption|decide) only[go_sem,hm,hz,ht,hr_,first11_e,a1,a2,a3,a4,b1,b2,b3,b4,Nat.le_refl,if_true,ZO,ZU,storeE,storeW,storeSE,zo_len,zo_one,zo_pl,zo_take,zu_len,zu_one,q1,q2,q3,q4,r1,r2,r3,r4,s1,s2,s3,s4,t1,t2,t3,t4,hbin1,hbin2,hcd,hup,hlk,hOT,hSB,k1,k2,k3,k4,l1,l2,l3,l4,m1,m2,m3,m4,m5,m6,gA2,gB2,yA1,yB1,uA1,uB1,z1,v1,yA2,yB2,ya2,uA2,uB2,ua2,z2,v2,wdl,bind_some_,map_some_,oneD_fold]|(apply ifP_in<;>intro)
   refine rF_use hsi ?_
   rintro _ L3 ⟨rfl, x3⟩
   have yA3 := pre_getV x3 uA2
   have yB3 := pre_getV x3 uB2
   have ya3 := pre_getV x3 ua2
   have yb3 := pre_getV x3 v2
   have z3 : (L3 ++ [zo])[L3.length]? = some zo := by simp
   have v3 : (L3 ++ [c1])[L3.length]? = some c1 := by simp
   have w3_ := List.prefix_append L3 [c1]
   have uA3 := pre_getV w3_ yA3
   have uB3 := pre_getV w3_ yB3
   have ua3 := pre_getV w3_ ya3
   have ub3 := pre_getV w3_ yb3
   repeat' first|simp (disch:=first|omega|assumption|decide) only[go_sem,hm,hz,ht,hr_,first11_e,a1,a2,a3,a4,b1,b2,b3,b4,Nat.le_refl,if_true,ZO,ZU,storeE,storeW,storeSE,zo_len,zo_one,zo_pl,zo_take,zu_len,zu_one,q1,q2,q3,q4,r1,r2,r3,r4,s1,s2,s3,s4,t1,t2,t3,t4,hbin1,hbin2,hcd,hup,hlk,hOT,hSB,k1,k2,k3,k4,l1,l2,l3,l4,m1,m2,m3,m4,m5,m6,gA2,gB2,yA1,yB1,uA1,uB1,z1,v1,yA2,yB2,ya2,uA2,uB2,ua2,z2,v2,yA3,yB3,ya3,yb3,uA3,uB3,ua3,ub3,z3,v3,wdl,bind_some_,map_some_,oneD_fold]|(apply ifP_in<;>intro)
   refine rF_use hsi' ?_
   rintro _ L4 ⟨rfl, x4⟩
   have yA4 := pre_getV x4 uA3
   have yB4 := pre_getV x4 uB3
   have ya4 := pre_getV x4 ua3
   have yb4 := pre_getV x4 ub3
   have yc4 := pre_getV x4 v3
   have z4 : (L4 ++ [zo])[L4.length]? = some zo := by simp
   have v4 : (L4 ++ [d1])[L4.length]? = some d1 := by simp
   have w4_ := List.prefix_append L4 [d1]
   have uA4 := pre_getV w4_ yA4
   have uB4 := pre_getV w4_ yB4
   have ua4 := pre_getV w4_ ya4
   have ub4 := pre_getV w4_ yb4
   have uc4 := pre_getV w4_ yc4
   cases ok <;> cases pk <;> cases eb
   all_goals
    try obtain rfl : es = true := hsd rfl rfl rfl
    have BNE : (true != true) = false := rfl
    have BNT : (false != false) = false := rfl
    repeat' first|simp (disch:=first|omega|assumption|decide) only[go_sem,hm,hz,ht,hr_,first11_e,a1,a2,a3,a4,b1,b2,b3,b4,Nat.le_refl,if_true,ZO,ZU,storeE,storeW,storeSE,zo_len,zo_one,zo_pl,zo_take,zu_len,zu_one,q1,q2,q3,q4,r1,r2,r3,r4,s1,s2,s3,s4,t1,t2,t3,t4,hbin1,hbin2,hcd,hup,hlk,hOT,hSB,k1,k2,k3,k4,l1,l2,l3,l4,m1,m2,m3,m4,m5,m6,Bool.true_and,Bool.false_and,Bool.and_true,Bool.and_false,Bool.not_true,Bool.not_false,beq_self_eq_true,if_false,Bool.false_eq_true,BNE,BNT,g2a,g2b,storeW1,storeSE1,mtyO,gA2,gB2,yA1,yB1,uA1,uB1,z1,v1,yA2,yB2,ya2,uA2,uB2,ua2,z2,v2,yA3,yB3,ya3,yb3,uA3,uB3,ua3,ub3,z3,v3,yA4,yB4,ya4,yb4,yc4,uA4,uB4,ua4,ub4,uc4,z4,v4,wdl,bind_some_,map_some_,oneD_fold]|(apply ifP_in<;>intro)
    refine rF_use hso ?_
    rintro _ M1 ⟨rfl, m1_⟩
    have nA1 := pre_getV m1_ uA4
    have nB1 := pre_getV m1_ uB4
    have na1 := pre_getV m1_ ua4
    have nb1 := pre_getV m1_ ub4
    have nc1 := pre_getV m1_ uc4
    have nd1 := pre_getV m1_ v4
    repeat' first|simp (disch:=first|omega|assumption|decide) only[go_sem,hm,hz,ht,hr_,first11_e,a1,a2,a3,a4,b1,b2,b3,b4,Nat.le_refl,if_true,ZO,ZU,storeE,storeW,storeSE,zo_len,zo_one,zo_pl,zo_take,zu_len,zu_one,q1,q2,q3,q4,r1,r2,r3,r4,s1,s2,s3,s4,t1,t2,t3,t4,hbin1,hbin2,hcd,hup,hlk,hOT,hSB,k1,k2,k3,k4,l1,l2,l3,l4,m1,m2,m3,m4,m5,m6,Bool.true_and,Bool.false_and,Bool.and_true,Bool.and_false,Bool.not_true,Bool.not_false,beq_self_eq_true,if_false,Bool.false_eq_true,BNE,BNT,g2a,g2b,storeW1,storeSE1,mtyO,gA2,gB2,yA1,yB1,uA1,uB1,z1,v1,yA2,yB2,ya2,uA2,uB2,ua2,z2,v2,yA3,yB3,ya3,yb3,uA3,uB3,ua3,ub3,z3,v3,yA4,yB4,ya4,yb4,yc4,uA4,uB4,ua4,ub4,uc4,z4,v4,nA1,nB1,na1,nb1,nc1,nd1,wdl,bind_some_,map_some_,oneD_fold]|(apply ifP_in<;>intro)
    refine rF_use hso' ?_
    rintro _ M2 ⟨rfl, m2_⟩
    have nA2 := pre_getV m2_ nA1
    have nB2 := pre_getV m2_ nB1
    have na2 := pre_getV m2_ na1
    have nb2 := pre_getV m2_ nb1
    have nc2 := pre_getV m2_ nc1
    have nd2 := pre_getV m2_ nd1
    have f0 : M2 <+: M2 ++ [[.mv [] []]] := List.prefix_append _ _
    have f1 : M2 <+: M2 ++ [[.mv [.agg c0] [.i 3]]] := List.prefix_append _ _
    have f2 : M2 <+: M2 ++ [[.mv [.agg c0] [.i 3]]] ++ [zu] := f1.trans (List.prefix_append _ _)
    have f3 : M2 <+: M2 ++ [[.mv [.agg c0] [.i 3]]] ++ [ca] := f1.trans (List.prefix_append _ _)
    have f4 : M2 <+: M2 ++ [[.mv [.agg c0] [.i 3]]] ++ [w4] := f1.trans (List.prefix_append _ _)
    have hA0 := pre_getV f0 nA2
    have hA1 := pre_getV f1 nA2
    have hA2 := pre_getV f2 nA2
    have hA3 := pre_getV f3 nA2
    have hA4 := pre_getV f4 nA2
    have hB0 := pre_getV f0 nB2
    have hB1 := pre_getV f1 nB2
    have hB2 := pre_getV f2 nB2
    have hB3 := pre_getV f3 nB2
    have hB4 := pre_getV f4 nB2
    have ha0 := pre_getV f0 na2
    have ha1 := pre_getV f1 na2
    have ha2 := pre_getV f2 na2
    have ha3 := pre_getV f3 na2
    have ha4 := pre_getV f4 na2
    have hb0 := pre_getV f0 nb2
    have hb1 := pre_getV f1 nb2
    have hb2 := pre_getV f2 nb2
    have hb3 := pre_getV f3 nb2
    have hb4 := pre_getV f4 nb2
    have hc0 := pre_getV f0 nc2
    have hc1 := pre_getV f1 nc2
    have hc2 := pre_getV f2 nc2
    have hc3 := pre_getV f3 nc2
    have hc4 := pre_getV f4 nc2
    have hd0 := pre_getV f0 nd2
    have hd1 := pre_getV f1 nd2
    have hd2 := pre_getV f2 nd2
    have hd3 := pre_getV f3 nd2
    have hd4 := pre_getV f4 nd2
    have hm4 : (M2 ++ [[.mv [.agg c0] [.i 3]]] ++ [w4])[M2.length]? = some [AV.mv [.agg c0] [.i 3]] := by simp
    have hw4 : (M2 ++ [[.mv [.agg c0] [.i 3]]] ++ [w4])[M2.length + 1]? = some w4 := by simp
    repeat' first|simp (disch:=first|omega|assumption|decide) only[go_sem,hm,hz,ht,hr_,first11_e,a1,a2,a3,a4,b1,b2,b3,b4,Nat.le_refl,if_true,ZO,ZU,storeE,storeW,storeSE,zo_len,zo_one,zo_pl,zo_take,zu_len,zu_one,q1,q2,q3,q4,r1,r2,r3,r4,s1,s2,s3,s4,t1,t2,t3,t4,hbin1,hbin2,hcd,hup,hlk,hOT,hSB,k1,k2,k3,k4,l1,l2,l3,l4,m1,m2,m3,m4,m5,m6,Bool.true_and,Bool.false_and,Bool.and_true,Bool.and_false,Bool.not_true,Bool.not_false,beq_self_eq_true,if_false,Bool.false_eq_true,BNE,BNT,g2a,g2b,storeW1,storeSE1,mtyO,gA2,gB2,yA1,yB1,uA1,uB1,z1,v1,yA2,yB2,ya2,uA2,uB2,ua2,z2,v2,yA3,yB3,ya3,yb3,uA3,uB3,ua3,ub3,z3,v3,yA4,yB4,ya4,yb4,yc4,uA4,uB4,ua4,ub4,uc4,z4,v4,nA1,nB1,na1,nb1,nc1,nd1,nA2,nB2,na2,nb2,nc2,nd2,hA0,hA1,hA2,hA3,hA4,hB0,hB1,hB2,hB3,hB4,ha0,ha1,ha2,ha3,ha4,hb0,hb1,hb2,hb3,hb4,hc0,hc1,hc2,hc3,hc4,hd0,hd1,hd2,hd3,hd4,hm4,hw4,wdl,bind_some_,map_some_,oneD_fold]|(apply ifP_in<;>intro)
    refine rF_use how ?_
    rintro _ M3 ⟨rfl, m3_⟩
    have nA3 := pre_getV m3_ hA4
    have nB3 := pre_getV m3_ hB4
    have na3 := pre_getV m3_ ha4
    have nb3 := pre_getV m3_ hb4
    have nc3 := pre_getV m3_ hc4
    have nd3 := pre_getV m3_ hd4
    have nm3 := pre_getV m3_ hm4
    have nw3 := pre_getV m3_ hw4
    have z9 : (M3 ++ [zo])[M3.length]? = some zo := by simp
    have v9 : (M3 ++ [c0])[M3.length]? = some c0 := by simp
    have w9_ := List.prefix_append M3 [c0]
    have uA9 := pre_getV w9_ nA3
    have uB9 := pre_getV w9_ nB3
    have ua9 := pre_getV w9_ na3
    have ub9 := pre_getV w9_ nb3
    have uc9 := pre_getV w9_ nc3
    have ud9 := pre_getV w9_ nd3
    have um9 := pre_getV w9_ nm3
    have uw9 := pre_getV w9_ nw3
    repeat' first|simp (disch:=first|omega|assumption|decide) only[go_sem,hm,hz,ht,hr_,first11_e,a1,a2,a3,a4,b1,b2,b3,b4,Nat.le_refl,if_true,ZO,ZU,storeE,storeW,storeSE,zo_len,zo_one,zo_pl,zo_take,zu_len,zu_one,q1,q2,q3,q4,r1,r2,r3,r4,s1,s2,s3,s4,t1,t2,t3,t4,hbin1,hbin2,hcd,hup,hlk,hOT,hSB,k1,k2,k3,k4,l1,l2,l3,l4,m1,m2,m3,m4,m5,m6,Bool.true_and,Bool.false_and,Bool.and_true,Bool.and_false,Bool.not_true,Bool.not_false,beq_self_eq_true,if_false,Bool.false_eq_true,BNE,BNT,g2a,g2b,storeW1,storeSE1,mtyO,gA2,gB2,yA1,yB1,uA1,uB1,z1,v1,yA2,yB2,ya2,uA2,uB2,ua2,z2,v2,yA3,yB3,ya3,yb3,uA3,uB3,ua3,ub3,z3,v3,yA4,yB4,ya4,yb4,yc4,uA4,uB4,ua4,ub4,uc4,z4,v4,nA1,nB1,na1,nb1,nc1,nd1,nA2,nB2,na2,nb2,nc2,nd2,hA0,hA1,hA2,hA3,hA4,hB0,hB1,hB2,hB3,hB4,ha0,ha1,ha2,ha3,ha4,hb0,hb1,hb2,hb3,hb4,hc0,hc1,hc2,hc3,hc4,hd0,hd1,hd2,hd3,hd4,hm4,hw4,nA3,nB3,na3,nb3,nc3,nd3,nm3,nw3,uA9,uB9,ua9,ub9,uc9,ud9,um9,uw9,z9,v9,wdl,bind_some_,map_some_,oneD_fold]|(apply ifP_in<;>intro)
   all_goals
    refine rF_use hsw ?_
    rintro _ M5 ⟨rfl, m5_⟩
    have nA5 := pre_getV m5_ uA9
    have nB5 := pre_getV m5_ uB9
    have na5 := pre_getV m5_ ua9
    have nb5 := pre_getV m5_ ub9
    have nc5 := pre_getV m5_ uc9
    have nd5 := pre_getV m5_ ud9
    have nm5 := pre_getV m5_ um9
    have nw5 := pre_getV m5_ uw9
    have nx5 := pre_getV m5_ v9
    repeat' first|simp (disch:=first|omega|assumption|decide) only[go_sem,hm,hz,ht,hr_,first11_e,a1,a2,a3,a4,b1,b2,b3,b4,Nat.le_refl,if_true,ZO,ZU,storeE,storeW,storeSE,zo_len,zo_one,zo_pl,zo_take,zu_len,zu_one,q1,q2,q3,q4,r1,r2,r3,r4,s1,s2,s3,s4,t1,t2,t3,t4,hbin1,hbin2,hcd,hup,hlk,hOT,hSB,k1,k2,k3,k4,l1,l2,l3,l4,m1,m2,m3,m4,m5,m6,Bool.true_and,Bool.false_and,Bool.and_true,Bool.and_false,Bool.not_true,Bool.not_false,beq_self_eq_true,if_false,Bool.false_eq_true,BNE,BNT,g2a,g2b,storeW1,storeSE1,mtyO,gA2,gB2,yA1,yB1,uA1,uB1,z1,v1,yA2,yB2,ya2,uA2,uB2,ua2,z2,v2,yA3,yB3,ya3,yb3,uA3,uB3,ua3,ub3,z3,v3,yA4,yB4,ya4,yb4,yc4,uA4,uB4,ua4,ub4,uc4,z4,v4,nA1,nB1,na1,nb1,nc1,nd1,nA2,nB2,na2,nb2,nc2,nd2,hA0,hA1,hA2,hA3,hA4,hB0,hB1,hB2,hB3,hB4,ha0,ha1,ha2,ha3,ha4,hb0,hb1,hb2,hb3,hb4,hc0,hc1,hc2,hc3,hc4,hd0,hd1,hd2,hd3,hd4,hm4,hw4,nA3,nB3,na3,nb3,nc3,nd3,nm3,nw3,uA9,uB9,ua9,ub9,uc9,ud9,um9,uw9,z9,v9,nA5,nB5,na5,nb5,nc5,nd5,nm5,nw5,nx5,wdl,bind_some_,map_some_,oneD_fold]|(apply ifP_in<;>intro)
end Hs
end Go.Proofs
