/- Walks: origins. -/
import Derived.Test.YtfkjkmjkfnephaaGreatDoorSiB
set_option linter.unusedVariables false
set_option linter.unusedSimpArgs false
namespace Go.Proofs
open Go.Lv
namespace Hs
open Pu Ut Utf In
variable {H : Heap}
structure OrgV where
 s : List UInt8
 h : HostV
 p : Int
def OrgV.cells (o : OrgV) : List AV := .str o.s :: (o.h.cells ++ [.i o.p])
def org0 : OrgV := ⟨[], ⟨0, [], 0, Ho.zeros 8⟩, 0⟩
def orgOf (u : UrlV) : OrgV × Bool := if spec u.scheme = 0 ∨ u.has = false then (org0, false) else (⟨u.scheme, u.host, if u.port = -1 then spec u.scheme else u.port⟩, true)
def zo : List AV := [AV.str [], AV.v (Value.int IntKind.i64 0), AV.str [],
                AV.v (Value.int IntKind.u32 0), AV.v (Value.int IntKind.u16 0), AV.v (Value.int IntKind.u16 0),
                AV.v (Value.int IntKind.u16 0), AV.v (Value.int IntKind.u16 0), AV.v (Value.int IntKind.u16 0),
                AV.v (Value.int IntKind.u16 0), AV.v (Value.int IntKind.u16 0), AV.v (Value.int IntKind.u16 0),
                AV.v (Value.int IntKind.i64 0)]
theorem ZO : [AV.str [], AV.v (Value.int IntKind.i64 0), AV.str [],
                AV.v (Value.int IntKind.u32 0), AV.v (Value.int IntKind.u16 0), AV.v (Value.int IntKind.u16 0),
                AV.v (Value.int IntKind.u16 0), AV.v (Value.int IntKind.u16 0), AV.v (Value.int IntKind.u16 0),
                AV.v (Value.int IntKind.u16 0), AV.v (Value.int IntKind.u16 0), AV.v (Value.int IntKind.u16 0),
                AV.v (Value.int IntKind.i64 0)] = zo := rfl
theorem zo_len : zo.length = 13 := rfl
theorem zo_one : zo.all AV.one = true := rfl
theorem zo_org : org0.cells = zo := rfl
theorem storeF {P : Program} {t : TypeId} {n : Nat} [h1 : SizeIs P t n] {K9 : Heap} {j : Nat} {ys zs : List AV} (hn : 0 < n) (hx : zs.length = n) (hxo : zs.all AV.one = true) (hy : ys.length = n) (hyo : ys.all AV.one = true) : storeC P t K9 j 0 (.agg ys) zs = some (K9.set j ys) := by
 unfold storeC
 simp only [h1.h, Option.bind_some]
 rw [if_pos ⟨hy, hyo, by omega, hn, plainRow_one hxo⟩]
 have e : List.drop (0 + n) zs = [] := List.drop_eq_nil_of_le (by omega)
 rw [e]
 simp [AV.cells]
theorem storeSg {K9 : Heap} {j off : Nat} {a : AV} {cs : List AV} (hl : off < cs.length) (ho : cs.all AV.one = true) : storeS K9 j off a cs = some (K9.set j (cs.set off a)) := by
 unfold storeS
 rw [if_pos hl, if_pos (plainRow_one ho)]
theorem o_len (o : OrgV) (h8 : o.h.l.length = 8) : o.cells.length = 13 := by
 unfold OrgV.cells
 simp [hcells_len' o.h h8]
theorem o_one (o : OrgV) : o.cells.all AV.one = true := by
 unfold OrgV.cells
 have e1 : ∀ s : List UInt8, (AV.str s).one = true := fun _ => rfl
 have e2 : ∀ v : Value, (AV.v v).one = true := fun _ => rfl
 simp only [List.all_cons, List.all_append, hcells_one', e1, e2, List.all_nil, Bool.and_true, Bool.true_and]
theorem o_get (o : OrgV) (h8 : o.h.l.length = 8) : o.cells[12]? = some (.i o.p) ∧ (o.cells.drop 1).take 11 = o.h.cells := by
 have hl := hcells_len' o.h h8
 unfold OrgV.cells
 generalize o.h.cells = cs at *
 match cs, hl with
 | [_, _, _, _, _, _, _, _, _, _, _], _ => exact ⟨rfl, rfl⟩
theorem o_pl (o : OrgV) {x : Option AV} : plainD o.cells x = x := plainD_of (plainRow_one (o_one o))
theorem o_take (o : OrgV) (h8 : o.h.l.length = 8) : o.cells.take 13 = o.cells := List.take_of_length_le (by rw [o_len o h8]; omega)
theorem zo_take : zo.take 13 = zo := rfl
theorem zo_pl {x : Option AV} : plainD zo x = x := plainD_of (plainRow_one zo_one)
theorem o_k12 (o : OrgV) (h8 : o.h.l.length = 8) {s : Option Nat} : partD (some false) s o.cells 12 = some (.i o.p) := (o_get o h8).1
theorem o_build (s : List UInt8) (h : HostV) (p : Int) (h8 : h.l.length = 8) : partD1 [(0, 1), (1, 11), (12, 1)] zo 0 (AV.str s) [(1, AV.agg h.cells), (2, AV.i p)] = some (OrgV.cells ⟨s, h, p⟩) := by
 have hl := hcells_len' h h8
 have ho := hcells_one' h
 unfold OrgV.cells
 simp only
 generalize h.cells = cs at *
 match cs, hl with
 | [_, _, _, _, _, _, _, _, _, _, _], _ =>
  unfold partD1
  simp only [List.getElem?_cons_zero]
  rw [if_pos (by decide)]
  simp [fillD, zo, AV.cells, ho, AV.one]
theorem o_set12 (o : OrgV) (h8 : o.h.l.length = 8) (p : Int) : o.cells.set 12 (.i p) = ({ o with p := p } : OrgV).cells := by
 have hl := hcells_len' o.h h8
 unfold OrgV.cells
 simp only
 generalize o.h.cells = cs at *
 match cs, hl with
 | [_, _, _, _, _, _, _, _, _, _, _], _ => rfl
section
variable {a b c d : List AV}
theorem g3a : (H ++ [a] ++ [b] ++ [c])[H.length]? = some a := by simp
theorem g3b : (H ++ [a] ++ [b] ++ [c])[H.length + 1]? = some b := by rw [xgL (by simp)]; simp
theorem g3c : (H ++ [a] ++ [b] ++ [c])[H.length + 1 + 1]? = some c := by rw [xgR (by simp)]; simp
theorem preX3 : H <+: H ++ [a] ++ [b] ++ [c] := ⟨[a] ++ [b] ++ [c], by simp⟩
theorem preX2 : H <+: H ++ [a] ++ [b] := ⟨[a] ++ [b], by simp⟩
end
theorem origin_w (u : UrlV) (hu : u.fine) : WF Tryz.prog cfg 11 [.agg u.cells] H (fun r H' => r = .tup [.agg (orgOf u).1.cells, .b (orgOf u).2] ∧ H <+: H') := by
 have h8 := hu.2.2.2.2.2.2.2.2.2.1.1
 have hm : ∀ d, cfg.muF 11 d = (false) := fun _ => rfl
 have hz : ∀ d, cfg.fzF 11 d = (false) := fun _ => rfl
 have ht : ∀ d, cfg.tkF 11 d = (false) := fun _ => rfl
 have hr_ : ∀ g, cfg.raw g = (g == 147 || g == 130 || g == 57) := fun _ => rfl
 refine rF_fn rfl rfl Tryz.func11 rfl ?_
 unfold UrlV.cells
 have hone : (pathC u).one = true := rfl
 have ho := u_one u (pathC u) hone
 have hn := u_len u (pathC u) h8
 have hpl := fun {x : Option AV} => u_pl u (pathC u) hone (x := x)
 have k0 := fun {s : Option Nat} => u_k0 u (pathC u) (s := s)
 have k3 := fun {s : Option Nat} => u_k3 u (pathC u) (s := s)
 have k4 := u_k4 u (pathC u) h8
 have k15 := fun {s : Option Nat} => u_k15 u (pathC u) h8 (s := s)
 generalize ucells u (pathC u) = cs at *
 unfold orgOf
 have hrng := spec_rng u.scheme
 have hsp := @special_e H u.scheme
 by_cases c1 : spec u.scheme = 0
 ·rw [if_pos (.inl c1)]
  rw [zo_org]
  repeat' first|simp (disch:=first|omega|assumption|decide) only[go_sem,hm,hz,ht,hr_,ho,hpl,k0,k3,k4,k15,special_e,c1,ZO,g2a,g2b,g3a,g3b,g3c,storeF,storeSg,zo_len,zo_one,zo_take,zo_pl,Nat.le_refl,if_true,wdl,bind_some_,map_some_,oneD_fold]|(apply ifP_in<;>intro)
  all_goals repeat' first | exact preX2 | exact preX3 | omega | (refine pre_set1 ?_ ?_ _)
 ·cases hh : u.has
  ·rw [hh] at k3
   rw [if_pos (.inr rfl)]
   rw [zo_org]
   repeat' first|simp (disch:=first|omega|assumption|decide) only[go_sem,hm,hz,ht,hr_,ho,hpl,k0,k3,k4,k15,special_e,c1,ZO,g2a,g2b,g3a,g3b,g3c,storeF,storeSg,zo_len,zo_one,zo_take,zo_pl,Nat.le_refl,if_true,wdl,bind_some_,map_some_,oneD_fold]|(apply ifP_in<;>intro)
   all_goals repeat' first | exact preX2 | exact preX3 | omega | (refine pre_set1 ?_ ?_ _)
  ·rw [hh] at k3
   rw [if_neg (by rintro (h | h); exact c1 h; cases h)]
   have hbu := fun s p => o_build s u.host p h8
   have q1 := fun s p => o_len ⟨s, u.host, p⟩ h8
   have q2 := fun s p => o_one ⟨s, u.host, p⟩
   have q3 := fun s p => fun {x : Option AV} => o_pl ⟨s, u.host, p⟩ (x := x)
   have q4 := fun s p => o_take ⟨s, u.host, p⟩ h8
   have q5 := fun s p => fun {z : Option Nat} => o_k12 ⟨s, u.host, p⟩ h8 (s := z)
   have q6 : ∀ s p p', (OrgV.cells ⟨s, u.host, p⟩).set 12 (.i p') = OrgV.cells ⟨s, u.host, p'⟩ := fun s p p' => o_set12 ⟨s, u.host, p⟩ h8 p'
   have qa1 := q1 u.scheme u.port
   have qa2 := q2 u.scheme u.port
   have qb1 := q1 u.scheme (-1)
   have qb2 := q2 u.scheme (-1)
   have qc1 := q1 u.scheme (spec u.scheme)
   have qc2 := q2 u.scheme (spec u.scheme)
   by_cases c3 : u.port = -1
   ·have c3D : decide (u.port = -1) = true := decide_eq_true c3
    rw [if_pos c3]
    repeat' first|simp (disch:=first|omega|assumption|decide) only[go_sem,hm,hz,ht,hr_,ho,hpl,k0,k3,k4,k15,special_e,c1,ZO,g2a,g2b,g3a,g3b,g3c,storeF,storeSg,zo_len,zo_one,zo_take,zo_pl,Nat.le_refl,if_true,hbu,q1,q2,q3,q4,q5,q6,c3D,c3,wdl,bind_some_,map_some_,oneD_fold]|(apply ifP_in<;>intro)
    all_goals repeat' first | exact preX2 | exact preX3 | omega | (refine pre_set1 ?_ ?_ _)
   ·have c3D : decide (u.port = -1) = false := decide_eq_false c3
    rw [if_neg c3]
    repeat' first|simp (disch:=first|omega|assumption|decide) only[go_sem,hm,hz,ht,hr_,ho,hpl,k0,k3,k4,k15,special_e,c1,ZO,g2a,g2b,g3a,g3b,g3c,storeF,storeSg,zo_len,zo_one,zo_take,zo_pl,Nat.le_refl,if_true,hbu,q1,q2,q3,q4,q5,q6,c3D,c3,wdl,bind_some_,map_some_,oneD_fold]|(apply ifP_in<;>intro)
    all_goals repeat' first | exact preX2 | exact preX3 | omega | (refine pre_set1 ?_ ?_ _)
end Hs
end Go.Proofs
