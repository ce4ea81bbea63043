/- Walks: of the same origin; origins as texts; few suffixes. -/
import Derived.Test.YtfkjkmjkfnephaaGreatDoorSiE
set_option linter.unusedVariables false
set_option linter.unusedSimpArgs false
namespace Go.Proofs
open Go.Lv
namespace Hs
open Pu Ut Utf In
variable {H : Heap}
theorem pre_getV {H H' : Heap} {j : Nat} {cs : List AV} (hp : H <+: H') (h : H[j]? = some cs) : H'[j]? = some cs := by
 obtain ⟨T, rfl⟩ := hp
 rw [xgL (xgI.1 h).1]
 exact h
theorem storeE {P : Program} {t : TypeId} {n : Nat} [h1 : SizeIs P t n] {K9 : Heap} {ys zs : List AV} (hn : 0 < n) (hx : zs.length = n) (hxo : zs.all AV.one = true) (hy : ys.length = n) (hyo : ys.all AV.one = true) : storeC P t (K9 ++ [zs]) K9.length 0 (.agg ys) zs = some (K9 ++ [ys]) := by
 rw [storeF hn hx hxo hy hyo]
 simp
def sameO (u v : UrlV) : Bool := (orgOf u).2 && ((orgOf v).2 && eqO (orgOf u).1 (orgOf v).1)
theorem same_wO (u v : UrlV) (hu : u.fine) (hv : v.fine) : WF Tryz.prog cfg 12 [.agg u.cells, .agg v.cells] H (fun r H' => r = .b (sameO u v) ∧ H <+: H') := by
 have hor := fun {H : Heap} => origin_w (H := H) u hu
 have hor' := fun {H : Heap} => origin_w (H := H) v hv
 have hbin := bin_org (orgOf u).1 (orgOf v).1 (org_fine hu) (org_fine hv)
 have hm : ∀ d, cfg.muF 12 d = (false) := fun _ => rfl
 have hz : ∀ d, cfg.fzF 12 d = (false) := fun _ => rfl
 have ht : ∀ d, cfg.tkF 12 d = (false) := fun _ => rfl
 have hr_ : ∀ g, cfg.raw g = (g == 147 || g == 130 || g == 57) := fun _ => rfl
 refine rF_fn rfl rfl Tryz.func12 rfl ?_
 have h8 := hu.2.2.2.2.2.2.2.2.2.1.1
 have h8' := hv.2.2.2.2.2.2.2.2.2.1.1
 have o8 := org_fine hu
 have p8 := org_fine hv
 have hs : sameO u v = ((orgOf u).2 && ((orgOf v).2 && eqO (orgOf u).1 (orgOf v).1)) := rfl
 rw [hs]
 clear hs
 generalize orgOf u = oo at *
 generalize orgOf v = pp at *
 obtain ⟨o, ok⟩ := oo
 obtain ⟨p, pk⟩ := pp
 simp only at o8 p8 hor hor' ⊢
 have a1 := u_one u (pathC u) rfl
 have a2 := u_len u (pathC u) h8
 have a3 := fun {x : Option AV} => u_pl u (pathC u) rfl (x := x)
 have a4 := u_take u (pathC u) h8
 have b1 := u_one v (pathC v) rfl
 have b2 := u_len v (pathC v) h8'
 have b3 := fun {x : Option AV} => u_pl v (pathC v) rfl (x := x)
 have b4 := u_take v (pathC v) h8'
 have q1 := o_len o o8
 have q2 := o_one o
 have q3 := fun {x : Option AV} => o_pl o (x := x)
 have q4 := o_take o o8
 have r1 := o_len p p8
 have r2 := o_one p
 have r3 := fun {x : Option AV} => o_pl p (x := x)
 have r4 := o_take p p8
 unfold UrlV.cells at *
 generalize ucells u (pathC u) = ca at *
 generalize ucells v (pathC v) = cb at *
 generalize eqO o p = eb at *
 generalize o.cells = c0 at *
 generalize p.cells = c1 at *
 repeat' first|simp (disch:=first|omega|assumption|decide) only[go_sem,hm,hz,ht,hr_,a1,a2,a3,a4,b1,b2,b3,b4,g2a,g2b,Nat.le_refl,if_true,wdl,bind_some_,map_some_,oneD_fold]|(apply ifP_in<;>intro)
 refine rF_use hor ?_
 rintro _ K1 ⟨rfl, T1, rfl⟩
 have gA : (H ++ [ca] ++ [cb] ++ T1)[H.length]? = some ca := by simp
 have gB : (H ++ [ca] ++ [cb] ++ T1)[H.length + 1]? = some cb := by rw [xgL (by simp)]; simp
 have hKp : H <+: H ++ [ca] ++ [cb] ++ T1 := preX2.trans (List.prefix_append _ _)
 generalize H ++ [ca] ++ [cb] ++ T1 = K7 at *
 have e1 := List.prefix_append K7 [c0]
 have gC : (K7 ++ [zo])[K7.length]? = some zo := by simp
 have gD : (K7 ++ [c0])[K7.length]? = some c0 := by simp
 have gE := pre_getV e1 gB
 repeat' first|simp (disch:=first|omega|assumption|decide) only[go_sem,hm,hz,ht,hr_,a1,a2,a3,a4,b1,b2,b3,b4,Nat.le_refl,if_true,ZO,gA,gB,gC,gD,gE,storeE,zo_len,zo_one,zo_pl,zo_take,q1,q2,q3,q4,wdl,bind_some_,map_some_,oneD_fold]|(apply ifP_in<;>intro)
 refine rF_use hor' ?_
 rintro _ K8 ⟨rfl, e2⟩
 have gF := pre_getV e2 gD
 have gG : (K8 ++ [zo])[K8.length]? = some zo := by simp
 have gI : (K8 ++ [c1])[K8.length]? = some c1 := by simp
 have gJ := pre_getV (List.prefix_append K8 [c1]) gF
 have hK8 : H <+: K8 ++ [c1] := (hKp.trans e1).trans (e2.trans (List.prefix_append _ _))
 cases ok <;> cases pk
 all_goals
  repeat' first|simp (disch:=first|omega|assumption|decide) only[go_sem,hm,hz,ht,hr_,Nat.le_refl,if_true,ZO,gG,gI,gJ,storeE,zo_len,zo_one,zo_pl,zo_take,q1,q2,q3,q4,r1,r2,r3,r4,hbin,Bool.false_and,Bool.true_and,wdl,bind_some_,map_some_,oneD_fold]|(apply ifP_in<;>intro)
 all_goals exact hK8
def OrgV.good (o : OrgV) : Prop := o.s.length ≤ 1000000 ∧ o.h.fine ∧ o.h.n.length ≤ 1000000 ∧ -9223372036854775808 ≤ o.p ∧ o.p ≤ 9223372036854775807
theorem few_wS (l : List (List UInt8)) (hl : l.length ≤ 140737488355328) (hx : ∀ x ∈ l, x.length ≤ 140737488355328) : WF Tryz.prog cfg 6 [.sl (l.map AV.str)] H (fun r H' => (r = .b false ∨ (r = .b true ∧ smallS l)) ∧ H' = H) := by
 have hm : ∀ d, cfg.muF 6 d = (false) := fun _ => rfl
 have hz : ∀ d, cfg.fzF 6 d = (false) := fun _ => rfl
 have ht : ∀ d, cfg.tkF 6 d = (false) := fun _ => rfl
 have hr_ : ∀ g, cfg.raw g = (g == 147 || g == 130 || g == 57) := fun _ => rfl
 refine rF_fn rfl rfl Tryz.func6 rfl ?_
 repeat' first|simp (disch:=first|omega|assumption|decide) only[go_sem,hm,hz,ht,hr_]|(apply ifP_in<;>intro)
 refine rL_loop (σ := Nat) (fun i e H' => H' = H ∧ e 0 = .sl (l.map AV.str) ∧ e 3 = .i i ∧ i ≤ l.length ∧ i ≤ 100 ∧ ∀ x ∈ l.take i, x.length ≤ 300) (fun i => l.length - i) 0 ?_ ?_
 ·refine ⟨rfl, ?_, ?_, by omega, by omega, by simp⟩
  all_goals first | (simp (disch := first | assumption | omega) only [go_sem]; done) | (simp (disch := first | assumption | omega) only [go_sem]; rfl)
 ·rintro i e H' ⟨rfl, g0, g3, i1, i2, i3⟩
  by_cases hi : i < l.length
  ·by_cases hi3 : i < 100
   ·have hix := ix_at hi
    have hxl := hx _ (List.getElem_mem hi)
    have htk : l.take (i + 1) = l.take i ++ [l[i]] := List.take_succ_eq_append_getElem hi
    generalize l[i] = x at *
    by_cases hb : x.length ≤ 300
    ·repeat' first|simp (disch:=first|omega|assumption|decide) only[go_sem,hm,hz,ht,hr_,g0,g3,hix]|(apply ifP_in<;>intro)
     refine ⟨i + 1, ⟨rfl, by omega, by omega, ?_⟩, by omega⟩
     rw [htk]
     intro y hy
     rcases List.mem_append.1 hy with hy | hy
     ·exact i3 y hy
     ·simp at hy; subst hy; exact hb
    ·repeat' first|simp (disch:=first|omega|assumption|decide) only[go_sem,hm,hz,ht,hr_,g0,g3,hix]|(apply ifP_in<;>intro)
     all_goals exact .inl trivial
   ·obtain rfl : i = 100 := by omega
    have hD : decide ((l.length : Int) ≤ 100) = false := decide_eq_false (by omega)
    repeat' first|simp (disch:=first|omega|assumption|decide) only[go_sem,hm,hz,ht,hr_,g0,g3,hD]|(apply ifP_in<;>intro)
    all_goals exact .inl trivial
  ·obtain rfl : i = l.length := by omega
   rw [List.take_length] at i3
   have hD : decide ((l.length : Int) ≤ 100) = true := decide_eq_true (by omega)
   repeat' first|simp (disch:=first|omega|assumption|decide) only[go_sem,hm,hz,ht,hr_,g0,g3,hD]|(apply ifP_in<;>intro)
   all_goals exact .inr ⟨by omega, i3⟩
end Hs
end Go.Proofs
