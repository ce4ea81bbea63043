/- A value semantics of the loaded code, its soundness, and walks through functions over it. -/
import Derived.Test.YtiboedaicjkfnaaGreatDoorHoAllax0
import Derived.Lib.IndexMore
set_option linter.unusedVariables false
set_option linter.unusedSimpArgs false
namespace Ho
open Go
def DC : List UInt8 := [58, 58]
def zeros (n : Nat) : List Int := List.replicate n 0
def b6 (s : List UInt8) : Option (List Int) :=
 if (Lib.cut s DC).2.2 = true then (list6 false (Lib.cut s DC).1).bind fun a => (list6 true (Lib.cut s DC).2.1).bind fun b => if a.length + b.length ≤ 7 then some (a ++ zeros (8 - a.length - b.length) ++ b) else none
 else (list6 true s).bind fun a => if a.length = 8 then some a else none
def p6 (s : List UInt8) : List Int × Int := if 4000 < s.length then (zeros 8, 11) else match b6 s with
 | some l => (l, 0)
 | none => (zeros 8, 4)
theorem b6_len {s : List UInt8} {l : List Int} (h : b6 s = some l) : l.length = 8 := by
 unfold b6 at h
 split at h
 ·obtain ⟨a, ha, h⟩ := xoB.1 h
  obtain ⟨b, hb, h⟩ := xoB.1 h
  split at h
  ·injection h with h; subst h; simp [zeros]; omega
  ·cases h
 ·obtain ⟨a, ha, h⟩ := xoB.1 h
  split at h
  ·injection h with h; subst h; assumption
  ·cases h
theorem cut_none {s : List UInt8} (h : ∀ j, j ≤ s.length → Lib.occAt s DC j = false) : Lib.cut s DC = (s, [], false) := by
 unfold Lib.cut
 rw [Lib.index_none h, if_neg (by omega)]
theorem cut_false {s : List UInt8} (h : (Lib.cut s DC).2.2 = false) : Lib.cut s DC = (s, [], false) := by
 unfold Lib.cut at h ⊢
 split at h
 ·cases h
 ·rename_i hn; rw [if_neg hn]
theorem cut_len (s : List UInt8) : (Lib.cut s DC).1.length ≤ s.length ∧ (Lib.cut s DC).2.1.length ≤ s.length := by
 unfold Lib.cut
 split
 ·simp; omega
 ·simp
end Ho
/- Walks: numbers of eight pieces. -/
set_option linter.unusedVariables false
set_option linter.unusedSimpArgs false
namespace Go.Proofs
open Go.Lv
namespace Hs
open Pu Ut Utf
variable {H : Heap}
theorem cut_e (s : List UInt8) (hs : s.length ≤ 1000000) {Q : K (AV → Heap → Prop)} : @rF Tryz.prog cfg 55 [.str s, .str [58, 58]] H Q = Q.v (.tup [.str (Lib.cut s Ho.DC).1, .str (Lib.cut s Ho.DC).2.1, .b (Lib.cut s Ho.DC).2.2]) H := by
 refine rF_eq (WF.ext (by rfl) ?_ ⟨rfl, rfl⟩)
 show cutT H [.str s, .str [58, 58]] = _
 show (if s.length < 4294967281 then some _ else none) = _
 rw [if_pos (by omega)]
 rfl
section
variable {P : Program} {a : List AV} {vs ys : List Int} {t e u e' : TypeId}
theorem ZZ : [AV.v (.int .u16 0), AV.v (.int .u16 0), AV.v (.int .u16 0), AV.v (.int .u16 0), AV.v (.int .u16 0), AV.v (.int .u16 0), AV.v (.int .u16 0), AV.v (.int .u16 0)] = (Ho.zeros 8).map uA := rfl
theorem g2b {b : List AV} : (H ++ [a] ++ [b])[H.length + 1]? = some b := by simp
theorem g2a {b : List AV} : (H ++ [a] ++ [b])[H.length]? = some a := by simp
theorem s2b {b c : List AV} : (H ++ [a] ++ [b]).set (H.length + 1) c = H ++ [a] ++ [c] := by simp
theorem s2a {b c : List AV} : (H ++ [a] ++ [b]).set H.length c = H ++ [c] ++ [b] := by simp
theorem one_u : (vs.map uA).all AV.one = true := List.all_eq_true.2 fun c hc => by obtain ⟨x, _, rfl⟩ := List.mem_map.1 hc; rfl
theorem slice8 [h1 : UndIs P t (.array 8 e)] [h2 : SizeIs P e 1] [h3 : AggIs P e false] [h4 : SizeIs P t 8] (hv : vs.length = 8) {lo hi : Option AV} :
  sliceM P (H ++ [a] ++ [vs.map uA]) t (.ptr (H.length + 1) 0) lo hi none = (bound 8 hi 8).bind fun h => (bound h lo 0).bind fun l => some (if l < 8 then .mr (H.length + 1) l (h - l) 1 false else .sl [], H ++ [a] ++ [vs.map uA]) := by
 unfold sliceM
 simp only [h1.h, h2.h, h3.h, Option.bind_some, g2b]
 rw [if_pos ⟨by omega, plainRow_one one_u, by simp [hv], by omega, h4.h⟩]
 simp only [Nat.mul_one, Nat.zero_add]
theorem copy8 [h1 : UndIs P t (.slice e)] [h2 : UndIs P u (.slice e')] [h3 : SizeIs P e 1] (hv : vs.length = 8) {off len : Nat} (h0 : 0 < ys.length) (hl : 0 < len) (ho : off + len ≤ 8) :
  copyM P (H ++ [a] ++ [vs.map uA]) t u (.mr (H.length + 1) off len 1 false) (.sl (ys.map uA)) = some (.i (min ys.length len : Nat), H ++ [a] ++ [(vs.take off ++ ys.take len ++ vs.drop (off + min ys.length len)).map uA]) := by
 unfold copyM
 simp only [h1.h, h2.h, h3.h]
 rw [if_pos ⟨trivial, fun c hc => by obtain ⟨x, _, rfl⟩ := List.mem_map.1 hc; exact ⟨rfl, rfl⟩⟩, if_neg (fun h => by rcases h with h | h; (rw [List.length_map] at h; omega); omega)]
 simp only [g2b, Option.bind_some]
 rw [if_pos ⟨by simp [hv]; omega, one_u⟩, s2b]
 have hf : ((ys.map uA).take len).flatMap AV.cells = (ys.take len).map uA := by
  rw [← List.map_take]
  generalize ys.take len = zs
  induction zs with
  | nil => rfl
  | cons z zs ih => rw [List.map_cons, List.flatMap_cons, ih]; rfl
 rw [hf]
 simp
theorem copy0 [h1 : UndIs P t (.slice e)] [h2 : UndIs P u (.slice e')] [h3 : SizeIs P e 1] {K : Heap} {j off len : Nat} (h0 : ys.length = 0) :
  copyM P K t u (.mr j off len 1 false) (.sl (ys.map uA)) = some (.i 0, K) := by
 unfold copyM
 simp only [h1.h, h2.h, h3.h]
 rw [if_pos ⟨trivial, fun c hc => by obtain ⟨x, _, rfl⟩ := List.mem_map.1 hc; exact ⟨rfl, rfl⟩⟩, if_pos (.inl (by simpa using h0))]
theorem copyN [h1 : UndIs P t (.slice e)] [h2 : UndIs P u (.slice e')] [h3 : SizeIs P e 1] {K : Heap} :
  copyM P K t u (.sl []) (.sl (ys.map uA)) = some (.i 0, K) := by
 unfold copyM
 simp only [h1.h, h2.h, h3.h]
 rw [if_pos ⟨trivial, fun c hc => by obtain ⟨x, _, rfl⟩ := List.mem_map.1 hc; rfl⟩]
theorem store8 [h1 : SizeIs P t 8] {us : List Int} {b : List AV} (hu : us.length = 8) (hv : vs.length = 8) : storeC P t (H ++ [us.map uA] ++ [b]) H.length 0 (.agg (vs.map uA)) (us.map uA) = some (H ++ [vs.map uA] ++ [b]) := by
 unfold storeC
 simp only [h1.h, Option.bind_some]
 rw [if_pos ⟨by simp [AV.cells, hv], one_u, by simp [hu], by omega, plainRow_one one_u⟩, s2a]
 simp [AV.cells, hu]
theorem sliceA8 [h1 : UndIs P t (.array 8 e)] [h2 : SizeIs P e 1] [h3 : AggIs P e false] [h4 : SizeIs P t 8] (hv : vs.length = 8) :
  sliceM P (H ++ [a] ++ [vs.map uA]) t (.ptr (H.length + 1) 0) none none none = some (.mr (H.length + 1) 0 8 1 false, H ++ [a] ++ [vs.map uA]) := by
 rw [slice8 hv]; rfl
theorem sliceB8 [h1 : UndIs P t (.array 8 e)] [h2 : SizeIs P e 1] [h3 : AggIs P e false] [h4 : SizeIs P t 8] (hv : vs.length = 8) (h0 : 0 < ys.length) (h8 : ys.length ≤ 8) :
  sliceM P (H ++ [a] ++ [vs.map uA]) t (.ptr (H.length + 1) 0) (some (.v (.int .i64 (8 - (ys.length : Int))))) none none = some (.mr (H.length + 1) (8 - ys.length) (8 - (8 - ys.length)) 1 false, H ++ [a] ++ [vs.map uA]) := by
 rw [slice8 hv]
 have e1 : bound 8 none 8 = some 8 := rfl
 have e2 : bound 8 (some (.v (.int .i64 (8 - (ys.length : Int))))) 0 = some (8 - ys.length) := by
  show (if 0 ≤ 8 - (ys.length : Int) ∧ 8 - (ys.length : Int) ≤ (8 : Nat) then some (8 - (ys.length : Int)).toNat else none) = _
  rw [if_pos (by omega)]
  congr 1; omega
 rw [e1, Option.bind_some, e2, Option.bind_some, if_pos (by omega)]
theorem sliceC8 [h1 : UndIs P t (.array 8 e)] [h2 : SizeIs P e 1] [h3 : AggIs P e false] [h4 : SizeIs P t 8] (hv : vs.length = 8) :
  sliceM P (H ++ [a] ++ [vs.map uA]) t (.ptr (H.length + 1) 0) (some (.v (.int .i64 8))) none none = some (.sl [], H ++ [a] ++ [vs.map uA]) := by
 rw [slice8 hv]; rfl
theorem copyF [h1 : UndIs P t (.slice e)] [h2 : UndIs P u (.slice e')] [h3 : SizeIs P e 1] (hy : ys.length ≤ 8) :
  copyM P (H ++ [a] ++ [(Ho.zeros 8).map uA]) t u (.mr (H.length + 1) 0 8 1 false) (.sl (ys.map uA)) = some (.i (ys.length : Nat), H ++ [a] ++ [(ys ++ Ho.zeros (8 - ys.length)).map uA]) := by
 by_cases h0 : ys.length = 0
 ·rw [copy0 h0, List.eq_nil_of_length_eq_zero h0]; rfl
 ·rw [copy8 rfl (by omega) (by omega) (by omega)]
  rw [Nat.min_eq_left hy, List.take_of_length_le hy, show (Ho.zeros 8).take 0 = [] from rfl, List.nil_append, show (Ho.zeros 8).drop (0 + ys.length) = Ho.zeros (8 - ys.length) from by unfold Ho.zeros; rw [Nat.zero_add, List.drop_replicate]]
theorem copyS {xs : List Int} [h1 : UndIs P t (.slice e)] [h2 : UndIs P u (.slice e')] [h3 : SizeIs P e 1] (h0 : 0 < ys.length) (hy : xs.length + ys.length ≤ 8) :
  copyM P (H ++ [a] ++ [(xs ++ Ho.zeros (8 - xs.length)).map uA]) t u (.mr (H.length + 1) (8 - ys.length) (8 - (8 - ys.length)) 1 false) (.sl (ys.map uA)) = some (.i (ys.length : Nat), H ++ [a] ++ [(xs ++ Ho.zeros (8 - xs.length - ys.length) ++ ys).map uA]) := by
 rw [copy8 (by simp [Ho.zeros]; omega) h0 (by omega) (by omega)]
 have e1 : 8 - (8 - ys.length) = ys.length := by omega
 rw [e1, Nat.min_self, List.take_of_length_le (Nat.le_refl ys.length), show 8 - ys.length + ys.length = 8 by omega]
 have e2 : (xs ++ Ho.zeros (8 - xs.length)).drop 8 = [] := List.drop_of_length_le (by simp [Ho.zeros]; omega)
 have e3 : (xs ++ Ho.zeros (8 - xs.length)).take (8 - ys.length) = xs ++ Ho.zeros (8 - xs.length - ys.length) := by
  rw [List.take_append, List.take_of_length_le (by omega)]
  unfold Ho.zeros
  rw [List.take_replicate]
  congr 2
  omega
 rw [e2, e3, List.append_nil]
theorem pre2 {b : List AV} : H <+: H ++ [a] ++ [b] := ⟨[a] ++ [b], by simp⟩
theorem copyNN [h1 : UndIs P t (.slice e)] [h2 : UndIs P u (.slice e')] [h3 : SizeIs P e 1] {K : Heap} :
  copyM P K t u (.sl []) (.sl []) = some (.i 0, K) := copyN (ys := [])
theorem load8 (hv : vs.length = 8) : plainD (vs.map uA) (if 8 ≤ (vs.map uA).length then some (AV.agg ((vs.map uA).take 8)) else none) = some (.agg (vs.map uA)) := by
 unfold plainD
 rw [if_pos (plainRow_one one_u), if_pos (by simp [hv]), List.take_of_length_le (by simp [hv])]
end
theorem parse6_w (s : List UInt8) (hs : s.length ≤ 1000000) : WF Tryz.prog cfg 30 [.str s] H (fun r H' => r = .tup [.agg ((Ho.p6 s).1.map uA), .i (Ho.p6 s).2] ∧ H <+: H') := by
 have hm : ∀ d, cfg.muF 30 d = (d == 62 || d == 64 || d == 68 || d == 70) := fun _ => rfl
 have hz : ∀ d, cfg.fzF 30 d = (false) := fun _ => rfl
 have ht : ∀ d, cfg.tkF 30 d = (false) := fun _ => rfl
 have hr_ : ∀ g, cfg.raw g = (g == 152 || g == 118) := fun _ => rfl
 refine rF_fn rfl rfl Tryz.func30 rfl ?_
 by_cases h4000 : 4000 < s.length
 ·have hp : Ho.p6 s = (Ho.zeros 8, 11) := if_pos h4000
  rw [hp]
  have z8 : (Ho.zeros 8).length = 8 := rfl
  repeat' first|simp (disch:=first|omega|assumption|decide) only[go_sem,hm,hz,ht,hr_,ZZ,g2b,g2a,s2a,load8,store8,wdl,bind_some_,map_some_,oneD_fold]|(apply ifP_in<;>intro)
  exact pre2
 ·have hcl := Ho.cut_len s
  repeat' first|simp (disch:=first|omega|assumption|decide) only[go_sem,hm,hz,ht,hr_,cut_e,wdl,bind_some_,map_some_,oneD_fold]|(apply ifP_in<;>intro)
  refine rF_use (list_w (Lib.cut s Ho.DC).1 (!(Lib.cut s Ho.DC).2.2) (by omega)) ?_
  rintro _ H1 ⟨⟨l, ok, rfl, hll, hl6⟩, rfl⟩
  repeat' first|simp (disch:=first|omega|assumption|decide) only[go_sem,hm,hz,ht,hr_,wdl,bind_some_,map_some_,oneD_fold]|(apply ifP_in<;>intro)
  refine rF_use (list_w (Lib.cut s Ho.DC).2.1 true (by omega)) ?_
  rintro _ H1 ⟨⟨m, fine, rfl, hml, hm6⟩, rfl⟩
  have hb6 : Ho.b6 s = if (Lib.cut s Ho.DC).2.2 = true then (Ho.list6 false (Lib.cut s Ho.DC).1).bind fun a => (Ho.list6 true (Lib.cut s Ho.DC).2.1).bind fun b => if a.length + b.length ≤ 7 then some (a ++ Ho.zeros (8 - a.length - b.length) ++ b) else none
   else (Ho.list6 true s).bind fun a => if a.length = 8 then some a else none := rfl
  have hsf : (Lib.cut s Ho.DC).2.2 = false → (Lib.cut s Ho.DC).1 = s ∧ (Lib.cut s Ho.DC).2.1 = [] := fun h => by rw [Ho.cut_false h]; exact ⟨rfl, rfl⟩
  have hp6 : Ho.p6 s = match Ho.b6 s with
   | some l => (l, 0)
   | none => (Ho.zeros 8, 4) := if_neg h4000
  have hpn : Ho.b6 s = none → Ho.p6 s = (Ho.zeros 8, 4) := fun h => by rw [hp6, h]
  have hpy : ∀ l, Ho.b6 s = some l → Ho.p6 s = (l, 0) := fun l h => by rw [hp6, h]
  generalize (Lib.cut s Ho.DC).1 = fr at *
  generalize (Lib.cut s Ho.DC).2.1 = bk at *
  generalize (Lib.cut s Ho.DC).2.2 = sh at *
  have z8 : (Ho.zeros 8).length = 8 := rfl
  cases sh with
  | false =>
   obtain ⟨rfl, rfl⟩ := hsf rfl
   rw [if_neg (by simp)] at hb6
   have hm0 : (if fine = true then some m else none) = some [] := hm6.symm.trans rfl
   cases fine with
   | false => cases hm0
   | true =>
   have hm0 : m = [] := by injection hm0
   subst hm0
   cases ok with
   | false =>
    rw [hpn (by rw [hb6, show Ho.list6 true fr = none from hl6]; rfl)]
    repeat' first|simp (disch:=first|omega|assumption|decide) only[go_sem,hm,hz,ht,hr_,ZZ,g2b,g2a,s2a,load8,store8,wdl,bind_some_,map_some_,oneD_fold]|(apply ifP_in<;>intro)
    exact pre2
   | true =>
    by_cases h8 : l.length = 8
    ·rw [hpy l (by rw [hb6, show Ho.list6 true fr = some l from hl6, Option.bind_some, if_pos h8])]
     have hl8 : l.length ≤ 8 := by omega
     have hv8 : (l ++ Ho.zeros (8 - l.length)).length = 8 := by simp [Ho.zeros]; omega
     have hle : l ++ Ho.zeros (8 - l.length) = l := by rw [h8]; simp [Ho.zeros]
     have hz0 : AV.sl [] = .sl (([] : List Int).map uA) := rfl
     repeat' first|simp (disch:=first|omega|assumption|decide) only[go_sem,hm,hz,ht,hr_,ZZ,g2b,g2a,s2a,load8,store8,sliceA8,sliceC8,copyF,copyNN,wdl,bind_some_,map_some_,oneD_fold]|(apply ifP_in<;>intro)
     exact ⟨by rw [hle], pre2⟩
    ·rw [hpn (by rw [hb6, show Ho.list6 true fr = some l from hl6, Option.bind_some, if_neg h8])]
     repeat' first|simp (disch:=first|omega|assumption|decide) only[go_sem,hm,hz,ht,hr_,ZZ,g2b,g2a,s2a,load8,store8,wdl,bind_some_,map_some_,oneD_fold]|(apply ifP_in<;>intro)
     exact pre2
  | true =>
   rw [if_pos rfl] at hb6
   cases ok with
   | false =>
    rw [hpn (by rw [hb6, show Ho.list6 false fr = none from hl6]; rfl)]
    repeat' first|simp (disch:=first|omega|assumption|decide) only[go_sem,hm,hz,ht,hr_,ZZ,g2b,g2a,s2a,load8,store8,wdl,bind_some_,map_some_,oneD_fold]|(apply ifP_in<;>intro)
    exact pre2
   | true =>
    rw [show Ho.list6 false fr = some l from hl6, Option.bind_some] at hb6
    cases fine with
    | false =>
     rw [hpn (by rw [hb6, show Ho.list6 true bk = none from hm6]; rfl)]
     repeat' first|simp (disch:=first|omega|assumption|decide) only[go_sem,hm,hz,ht,hr_,ZZ,g2b,g2a,s2a,load8,store8,wdl,bind_some_,map_some_,oneD_fold]|(apply ifP_in<;>intro)
     exact pre2
    | true =>
     rw [show Ho.list6 true bk = some m from hm6, Option.bind_some] at hb6
     by_cases h7 : l.length + m.length ≤ 7
     ·rw [hpy _ (by rw [hb6, if_pos h7])]
      have hl8 : l.length ≤ 8 := by omega
      have hlm : l.length + m.length ≤ 8 := by omega
      have hm8 : m.length ≤ 8 := by omega
      have hv8 : (l ++ Ho.zeros (8 - l.length)).length = 8 := by simp [Ho.zeros]; omega
      have hw8 : (l ++ Ho.zeros (8 - l.length - m.length) ++ m).length = 8 := by simp [Ho.zeros]; omega
      by_cases hm0 : m.length = 0
      ·have := List.eq_nil_of_length_eq_zero hm0
       subst this
       repeat' first|simp (disch:=first|omega|assumption|decide) only[go_sem,hm,hz,ht,hr_,ZZ,g2b,g2a,s2a,load8,store8,sliceA8,sliceC8,copyF,copyNN,wdl,bind_some_,map_some_,oneD_fold]|(apply ifP_in<;>intro)
       exact ⟨by simp, pre2⟩
      ·have hmp : 0 < m.length := by omega
       repeat' first|simp (disch:=first|omega|assumption|decide) only[go_sem,hm,hz,ht,hr_,ZZ,g2b,g2a,s2a,load8,store8,sliceA8,sliceB8,copyF,copyS,wdl,bind_some_,map_some_,oneD_fold]|(apply ifP_in<;>intro)
       exact pre2
     ·rw [hpn (by rw [hb6, if_neg h7])]
      repeat' first|simp (disch:=first|omega|assumption|decide) only[go_sem,hm,hz,ht,hr_,ZZ,g2b,g2a,s2a,load8,store8,wdl,bind_some_,map_some_,oneD_fold]|(apply ifP_in<;>intro)
      exact pre2
end Hs
end Go.Proofs
/- Walks: numbers of eight pieces, the document's side. -/
set_option linter.unusedVariables false
set_option linter.unusedSimpArgs false
namespace Go.Proofs
open Go.Lv
namespace Hs
open Pu Ut Utf
variable {H : Heap}
section
variable {P : Program} {a : List AV} {vs ys : List Int} {t e u e' : TypeId}
end
end Hs
end Go.Proofs
/- Walks: signs that a host may not hold. -/
set_option linter.unusedVariables false
set_option linter.unusedSimpArgs false
namespace Go.Proofs
open Go.Lv
namespace Hs
open Pu Ut Utf
variable {H : Heap}
def BAD : List UInt8 := [0, 9, 10, 13, 32, 35, 47, 58, 60, 62, 63, 64, 91, 92, 93, 94, 124]
def bad (s : List UInt8) : Bool := s.any fun c => decide (c ∈ BAD)
def lows (s : List UInt8) : Bool := s.any fun c => decide (c.toNat < 32 ∨ c.toNat = 37 ∨ c.toNat = 127)
theorem any_take {p : UInt8 → Bool} {s : List UInt8} {i : Nat} (h : i < s.length) : (s.take (i + 1)).any p = ((s.take i).any p || p s[i]) := by
 rw [List.take_succ_eq_append_getElem h, List.any_append]; simp
theorem any_yes {p : UInt8 → Bool} {s : List UInt8} {i : Nat} (h : i < s.length) (hp : p s[i] = true) : s.any p = true := List.any_eq_true.2 ⟨_, List.getElem_mem h, hp⟩
theorem has_w (s : List UInt8) (hs : s.length ≤ 1000000) : WF Tryz.prog cfg 20 [.str s] H (fun r H' => r = .b (bad s) ∧ H' = H) := by
 have hm : ∀ d, cfg.muF 20 d = (false) := fun _ => rfl
 have hz : ∀ d, cfg.fzF 20 d = (false) := fun _ => rfl
 have ht : ∀ d, cfg.tkF 20 d = (false) := fun _ => rfl
 have hr_ : ∀ g, cfg.raw g = (g == 152 || g == 118) := fun _ => rfl
 refine rF_fn rfl rfl Tryz.func20 rfl ?_
 repeat' first|simp (disch:=first|omega|assumption|decide) only[go_sem,hm,hz,ht,hr_]|(apply ifP_in<;>intro)
 refine rL_loop (σ := Nat) (fun i e H' => H' = H ∧ e 0 = .str s ∧ e 5 = .i s.length ∧ e 6 = .i i ∧ i ≤ s.length ∧ (s.take i).any (fun c => decide (c ∈ BAD)) = false) (fun i => s.length - i) 0 ?_ ?_
 ·refine ⟨rfl, ?_, ?_, ?_, by omega, rfl⟩
  all_goals first | (simp (disch := first | assumption | omega) only [go_sem]; done) | (simp (disch := first | assumption | omega) only [go_sem]; rfl)
 ·rintro i e H' ⟨rfl, g0, g5, g6, i1, hn⟩
  by_cases hi : i < s.length
  ·have hix := ix_at hi
   have hat := any_take (p := fun c => decide (c ∈ BAD)) hi
   have hay := any_yes (p := fun c => decide (c ∈ BAD)) hi
   generalize s[i] = x at *
   have hxx : (x.toNat : Int).toNat.toUInt8 = x := by simp
   have hxn : x.toNat.toUInt8 = x := by simp
   have him : ∀ {Q : K (AV → Heap → Prop)} {H : Heap}, @rF Tryz.prog cfg 37 [.str [0, 9, 10, 13, 32, 35, 47, 58, 60, 62, 63, 64, 91, 92, 93, 94, 124], byteA x] H Q = Q.v (.i (Lib.indexByte BAD x)) H := by
    intro Q H
    rw [indexByte_be, hxx]; rfl
   have hmm := index_mem x BAD
   generalize Lib.indexByte BAD x = q at *
   by_cases hq : 0 ≤ q
   ·rw [show bad s = true from hay (decide_eq_true (hmm.1 hq))]
    repeat' first|simp (disch:=first|omega|assumption|decide) only[go_sem,hm,hz,ht,hr_,g0,g5,g6,hix,him]|(apply ifP_in<;>intro)
   ·repeat' first|simp (disch:=first|omega|assumption|decide) only[go_sem,hm,hz,ht,hr_,g0,g5,g6,hix,him]|(apply ifP_in<;>intro)
    refine ⟨i + 1, ⟨rfl, by omega, ?_⟩, by omega⟩
    rw [hat, hn]
    exact decide_eq_false fun h => hq (hmm.2 h)
  ·have : i = s.length := by omega
   subst this
   rw [List.take_length] at hn
   rw [show bad s = false from hn]
   repeat' first|simp (disch:=first|omega|assumption|decide) only[go_sem,hm,hz,ht,hr_,g0,g5,g6]|(apply ifP_in<;>intro)
theorem low_w (s : List UInt8) (hs : s.length ≤ 1000000) : WF Tryz.prog cfg 34 [.str s] H (fun r H' => r = .b (lows s) ∧ H' = H) := by
 have hm : ∀ d, cfg.muF 34 d = (false) := fun _ => rfl
 have hz : ∀ d, cfg.fzF 34 d = (false) := fun _ => rfl
 have ht : ∀ d, cfg.tkF 34 d = (false) := fun _ => rfl
 have hr_ : ∀ g, cfg.raw g = (g == 152 || g == 118) := fun _ => rfl
 refine rF_fn rfl rfl Tryz.func34 rfl ?_
 repeat' first|simp (disch:=first|omega|assumption|decide) only[go_sem,hm,hz,ht,hr_]|(apply ifP_in<;>intro)
 refine rL_loop (σ := Nat) (fun i e H' => H' = H ∧ e 0 = .str s ∧ e 5 = .i s.length ∧ e 6 = .i i ∧ i ≤ s.length ∧ (s.take i).any (fun c => decide (c.toNat < 32 ∨ c.toNat = 37 ∨ c.toNat = 127)) = false) (fun i => s.length - i) 0 ?_ ?_
 ·refine ⟨rfl, ?_, ?_, ?_, by omega, rfl⟩
  all_goals first | (simp (disch := first | assumption | omega) only [go_sem]; done) | (simp (disch := first | assumption | omega) only [go_sem]; rfl)
 ·rintro i e H' ⟨rfl, g0, g5, g6, i1, hn⟩
  by_cases hi : i < s.length
  ·have hix := ix_at hi
   have hat := any_take (p := fun c => decide (c.toNat < 32 ∨ c.toNat = 37 ∨ c.toNat = 127)) hi
   have hay := any_yes (p := fun c => decide (c.toNat < 32 ∨ c.toNat = 37 ∨ c.toNat = 127)) hi
   generalize s[i] = x at *
   by_cases hq : x.toNat < 32 ∨ x.toNat = 37 ∨ x.toNat = 127
   ·rw [show lows s = true from hay (decide_eq_true hq)]
    rcases hq with hq | hq | hq
    ·repeat' first|simp (disch:=first|omega|assumption|decide) only[go_sem,hm,hz,ht,hr_,g0,g5,g6,hix]|(apply ifP_in<;>intro)
    ·repeat' first|simp (disch:=first|omega|assumption|decide) only[go_sem,hm,hz,ht,hr_,g0,g5,g6,hix]|(apply ifP_in<;>intro)
    ·repeat' first|simp (disch:=first|omega|assumption|decide) only[go_sem,hm,hz,ht,hr_,g0,g5,g6,hix]|(apply ifP_in<;>intro)
   ·repeat' first|simp (disch:=first|omega|assumption|decide) only[go_sem,hm,hz,ht,hr_,g0,g5,g6,hix]|(apply ifP_in<;>intro)
    refine ⟨i + 1, ⟨rfl, by omega, ?_⟩, by omega⟩
    rw [hat, hn]
    exact decide_eq_false hq
  ·have : i = s.length := by omega
   subst this
   rw [List.take_length] at hn
   rw [show lows s = false from hn]
   repeat' first|simp (disch:=first|omega|assumption|decide) only[go_sem,hm,hz,ht,hr_,g0,g5,g6]|(apply ifP_in<;>intro)
theorem has_e (s : List UInt8) (hs : s.length ≤ 1000000) {Q : K (AV → Heap → Prop)} : @rF Tryz.prog cfg 20 [.str s] H Q = Q.v (.b (bad s)) H := rF_eq (has_w s hs)
theorem low_e (s : List UInt8) (hs : s.length ≤ 1000000) {Q : K (AV → Heap → Prop)} : @rF Tryz.prog cfg 34 [.str s] H Q = Q.v (.b (lows s)) H := rF_eq (low_w s hs)
end Hs
end Go.Proofs
