/- A value semantics of the loaded code, its soundness, and walks through functions over it. -/
import Derived.Test.YtiboedaicjkfnaaGreatDoorHoAllax0
import Derived.Lib.IndexMore
set_option linter.unusedVariables false
set_option linter.unusedSimpArgs false
namespace Ho
open Go
def DC : List UInt8 := [58, 58]
theorem occ_dc (s : List UInt8) (i : Nat) : Lib.occAt s DC i = decide (i + 1 < s.length ∧ s.getD i 0 = 58 ∧ s.getD (i + 1) 0 = 58) := by
 by_cases h : i + 1 < s.length
 ·unfold Lib.occAt DC
  rw [List.drop_eq_getElem_cons (show i < s.length by omega), List.drop_eq_getElem_cons h]
  simp only [xgD, xgE h, xgE (show i < s.length by omega), Option.getD_some, List.isPrefixOf, Bool.and_true, h, true_and]
  rw [Bool.eq_iff_iff]
  simp only [Bool.and_eq_true, beq_iff_eq, decide_eq_true_eq]
  constructor
  ·rintro ⟨a, b⟩; exact ⟨a.symm, b.symm⟩
  ·rintro ⟨a, b⟩; exact ⟨a.symm, b.symm⟩
 ·rw [decide_eq_false (fun h2 => h h2.1)]
  cases ho : Lib.occAt s DC i with
  | false => rfl
  | true =>
   rcases Lib.occAt_room ho with h2 | h2
   ·unfold DC at h2; simp at h2; omega
   ·cases h2
def zeros (n : Nat) : List Int := List.replicate n 0
def b6 (s : List UInt8) : Option (List Int) :=
 if (Lib.cut s DC).2.2 = true then (list6 false (Lib.cut s DC).1).bind fun a => (list6 true (Lib.cut s DC).2.1).bind fun b => if a.length + b.length ≤ 7 then some (a ++ zeros (8 - a.length - b.length) ++ b) else none
 else (list6 true s).bind fun a => if a.length = 8 then some a else none
def p6 (s : List UInt8) : List Int × Int := if 4000 < s.length then (zeros 8, 11) else match b6 s with
 | some l => (l, 0)
 | none => (zeros 8, 4)
theorem b6_len {s : List UInt8} {l : List Int} (h : b6 s = some l) : l.length = 8 := by
 unfold b6 at h
 split at h
 ·obtain ⟨a, ha, h⟩ := xoB.1 h
  obtain ⟨b, hb, h⟩ := xoB.1 h
  split at h
  ·injection h with h; subst h; simp [zeros]; omega
  ·cases h
 ·obtain ⟨a, ha, h⟩ := xoB.1 h
  split at h
  ·injection h with h; subst h; assumption
  ·cases h
theorem cut_none {s : List UInt8} (h : ∀ j, j ≤ s.length → Lib.occAt s DC j = false) : Lib.cut s DC = (s, [], false) := by
 unfold Lib.cut
 rw [Lib.index_none h, if_neg (by omega)]
theorem cut_some {s : List UInt8} {i : Nat} (hi : i ≤ s.length) (ho : Lib.occAt s DC i = true) (hn : ∀ j, j < i → Lib.occAt s DC j = false) : Lib.cut s DC = (s.take i, s.drop (i + 2), true) := by
 unfold Lib.cut
 rw [Lib.index_first hi ho hn, if_pos (by omega)]
 simp [DC]
theorem cut_false {s : List UInt8} (h : (Lib.cut s DC).2.2 = false) : Lib.cut s DC = (s, [], false) := by
 unfold Lib.cut at h ⊢
 split at h
 ·cases h
 ·rename_i hn; rw [if_neg hn]
theorem cut_len (s : List UInt8) : (Lib.cut s DC).1.length ≤ s.length ∧ (Lib.cut s DC).2.1.length ≤ s.length := by
 unfold Lib.cut
 split
 ·simp; omega
 ·simp
theorem oct_bnd {y : List UInt8} {v : Int} (h : oct y = some v) : 0 ≤ v ∧ v ≤ 255 := by
 unfold oct at h
 split at h
 ·rename_i ho
  injection h with h; subst h
  have h1 := of_decide_eq_true ho
  exact ⟨num_nonneg (by omega) h1.2.2.1, h1.2.2.2.2⟩
 ·cases h
theorem ofold_bnd : ∀ (q : List (List UInt8)) (n r : Int) (k : Nat), ofold q n = some r → 0 ≤ n → n < 256 ^ k → 0 ≤ r ∧ r < 256 ^ (k + q.length) := by
 intro q
 induction q with
 | nil => intro n r k h h0 h1; rw [ofold] at h; injection h with h; subst h; exact ⟨h0, h1⟩
 | cons y q ih =>
  intro n r k h h0 h1
  rw [ofold] at h
  obtain ⟨v, hv, h⟩ := xoB.1 h
  have hb := oct_bnd hv
  have := ih (n * 256 + v) r (k + 1) h (by omega) (by rw [Int.pow_succ]; omega)
  rw [List.length_cons, show k + (q.length + 1) = k + 1 + q.length by omega]
  exact this
theorem four_bnd {x : List UInt8} {l : List Int} (h : four x = some l) : ∀ v ∈ l, 0 ≤ v ∧ v < 65536 := by
 unfold four at h
 split at h
 ·rename_i h4
  obtain ⟨n, hn, rfl⟩ := xoM.1 h
  have := ofold_bnd _ 0 n 0 hn (by omega) (by simp)
  rw [h4] at this
  intro v hv
  simp only [List.mem_cons, List.not_mem_nil, or_false] at hv
  have h2 : n < 4294967296 := this.2
  rcases hv with rfl | rfl <;> omega
 ·cases h
theorem grp_bnd (e : Bool) : ∀ (p : List (List UInt8)) (l : List Int), grp e p = some l → ∀ v ∈ l, 0 ≤ v ∧ v < 65536 := by
 intro p
 induction p with
 | nil => intro l h v hv; rw [grp] at h; injection h with h; subst h; cases hv
 | cons x p ih =>
  intro l h v hv
  cases p with
  | nil =>
   rw [grp] at h
   split at h
   ·exact four_bnd h v hv
   ·obtain ⟨n, hn, rfl⟩ := xoM.1 h
    simp at hv; subst hv
    exact hexg_bnd hn
  | cons y r =>
   rw [grp] at h
   obtain ⟨n, hn, h⟩ := xoB.1 h
   obtain ⟨m, hm, rfl⟩ := xoM.1 h
   rcases List.mem_cons.1 hv with rfl | hv
   ·exact hexg_bnd hn
   ·exact ih m hm v hv
theorem list6_bnd {e : Bool} {s : List UInt8} {l : List Int} (h : list6 e s = some l) : ∀ v ∈ l, 0 ≤ v ∧ v < 65536 := by
 unfold list6 at h
 split at h
 ·injection h with h; subst h; intro v hv; cases hv
 ·exact grp_bnd e _ l h
end Ho
/- Walks: numbers of eight pieces. -/
set_option linter.unusedVariables false
set_option linter.unusedSimpArgs false
namespace Go.Proofs
open Go.Lv
namespace Hs
open Pu Ut Utf
variable {H : Heap}
theorem cut_e (s : List UInt8) (hs : s.length ≤ 1000000) {Q : K (AV → Heap → Prop)} : @rF Tryz.prog cfg 55 [.str s, .str [58, 58]] H Q = Q.v (.tup [.str (Lib.cut s Ho.DC).1, .str (Lib.cut s Ho.DC).2.1, .b (Lib.cut s Ho.DC).2.2]) H := by
 refine rF_eq (WF.ext (by rfl) ?_ ⟨rfl, rfl⟩)
 show cutT H [.str s, .str [58, 58]] = _
 show (if s.length < 4294967281 then some _ else none) = _
 rw [if_pos (by omega)]
 rfl
section
variable {P : Program} {a : List AV} {vs ys : List Int} {t e u e' : TypeId}
theorem ZZ : [AV.v (.int .u16 0), AV.v (.int .u16 0), AV.v (.int .u16 0), AV.v (.int .u16 0), AV.v (.int .u16 0), AV.v (.int .u16 0), AV.v (.int .u16 0), AV.v (.int .u16 0)] = (Ho.zeros 8).map uA := rfl
theorem g2b {b : List AV} : (H ++ [a] ++ [b])[H.length + 1]? = some b := by simp
theorem g2a {b : List AV} : (H ++ [a] ++ [b])[H.length]? = some a := by simp
theorem s2b {b c : List AV} : (H ++ [a] ++ [b]).set (H.length + 1) c = H ++ [a] ++ [c] := by simp
theorem s2a {b c : List AV} : (H ++ [a] ++ [b]).set H.length c = H ++ [c] ++ [b] := by simp
theorem one_u : (vs.map uA).all AV.one = true := List.all_eq_true.2 fun c hc => by obtain ⟨x, _, rfl⟩ := List.mem_map.1 hc; rfl
theorem slice8 [h1 : UndIs P t (.array 8 e)] [h2 : SizeIs P e 1] [h3 : AggIs P e false] [h4 : SizeIs P t 8] (hv : vs.length = 8) {lo hi : Option AV} :
  sliceM P (H ++ [a] ++ [vs.map uA]) t (.ptr (H.length + 1) 0) lo hi none = (bound 8 hi 8).bind fun h => (bound h lo 0).bind fun l => some (if l < 8 then .mr (H.length + 1) l (h - l) 1 false else .sl [], H ++ [a] ++ [vs.map uA]) := by
 unfold sliceM
 simp only [h1.h, h2.h, h3.h, Option.bind_some, g2b]
 rw [if_pos ⟨by omega, plainRow_one one_u, by simp [hv], by omega, h4.h⟩]
 simp only [Nat.mul_one, Nat.zero_add]
theorem copy8 [h1 : UndIs P t (.slice e)] [h2 : UndIs P u (.slice e')] [h3 : SizeIs P e 1] (hv : vs.length = 8) {off len : Nat} (h0 : 0 < ys.length) (hl : 0 < len) (ho : off + len ≤ 8) :
  copyM P (H ++ [a] ++ [vs.map uA]) t u (.mr (H.length + 1) off len 1 false) (.sl (ys.map uA)) = some (.i (min ys.length len : Nat), H ++ [a] ++ [(vs.take off ++ ys.take len ++ vs.drop (off + min ys.length len)).map uA]) := by
 unfold copyM
 simp only [h1.h, h2.h, h3.h]
 rw [if_pos ⟨trivial, fun c hc => by obtain ⟨x, _, rfl⟩ := List.mem_map.1 hc; exact ⟨rfl, rfl⟩⟩, if_neg (fun h => by rcases h with h | h; (rw [List.length_map] at h; omega); omega)]
 simp only [g2b, Option.bind_some]
 rw [if_pos ⟨by simp [hv]; omega, one_u⟩, s2b]
 have hf : ((ys.map uA).take len).flatMap AV.cells = (ys.take len).map uA := by
  rw [← List.map_take]
  generalize ys.take len = zs
  induction zs with
  | nil => rfl
  | cons z zs ih => rw [List.map_cons, List.flatMap_cons, ih]; rfl
 rw [hf]
 simp
theorem copy0 [h1 : UndIs P t (.slice e)] [h2 : UndIs P u (.slice e')] [h3 : SizeIs P e 1] {K : Heap} {j off len : Nat} (h0 : ys.length = 0) :
  copyM P K t u (.mr j off len 1 false) (.sl (ys.map uA)) = some (.i 0, K) := by
 unfold copyM
 simp only [h1.h, h2.h, h3.h]
 rw [if_pos ⟨trivial, fun c hc => by obtain ⟨x, _, rfl⟩ := List.mem_map.1 hc; exact ⟨rfl, rfl⟩⟩, if_pos (.inl (by simpa using h0))]
theorem copyN [h1 : UndIs P t (.slice e)] [h2 : UndIs P u (.slice e')] [h3 : SizeIs P e 1] {K : Heap} :
  copyM P K t u (.sl []) (.sl (ys.map uA)) = some (.i 0, K) := by
 unfold copyM
 simp only [h1.h, h2.h, h3.h]
 rw [if_pos ⟨trivial, fun c hc => by obtain ⟨x, _, rfl⟩ := List.mem_map.1 hc; rfl⟩]
theorem store8 [h1 : SizeIs P t 8] {us : List Int} {b : List AV} (hu : us.length = 8) (hv : vs.length = 8) : storeC P t (H ++ [us.map uA] ++ [b]) H.length 0 (.agg (vs.map uA)) (us.map uA) = some (H ++ [vs.map uA] ++ [b]) := by
 unfold storeC
 simp only [h1.h, Option.bind_some]
 rw [if_pos ⟨by simp [AV.cells, hv], one_u, by simp [hu], by omega, plainRow_one one_u⟩, s2a]
 simp [AV.cells, hu]
theorem sliceA8 [h1 : UndIs P t (.array 8 e)] [h2 : SizeIs P e 1] [h3 : AggIs P e false] [h4 : SizeIs P t 8] (hv : vs.length = 8) :
  sliceM P (H ++ [a] ++ [vs.map uA]) t (.ptr (H.length + 1) 0) none none none = some (.mr (H.length + 1) 0 8 1 false, H ++ [a] ++ [vs.map uA]) := by
 rw [slice8 hv]; rfl
theorem sliceB8 [h1 : UndIs P t (.array 8 e)] [h2 : SizeIs P e 1] [h3 : AggIs P e false] [h4 : SizeIs P t 8] (hv : vs.length = 8) (h0 : 0 < ys.length) (h8 : ys.length ≤ 8) :
  sliceM P (H ++ [a] ++ [vs.map uA]) t (.ptr (H.length + 1) 0) (some (.v (.int .i64 (8 - (ys.length : Int))))) none none = some (.mr (H.length + 1) (8 - ys.length) (8 - (8 - ys.length)) 1 false, H ++ [a] ++ [vs.map uA]) := by
 rw [slice8 hv]
 have e1 : bound 8 none 8 = some 8 := rfl
 have e2 : bound 8 (some (.v (.int .i64 (8 - (ys.length : Int))))) 0 = some (8 - ys.length) := by
  show (if 0 ≤ 8 - (ys.length : Int) ∧ 8 - (ys.length : Int) ≤ (8 : Nat) then some (8 - (ys.length : Int)).toNat else none) = _
  rw [if_pos (by omega)]
  congr 1; omega
 rw [e1, Option.bind_some, e2, Option.bind_some, if_pos (by omega)]
theorem sliceC8 [h1 : UndIs P t (.array 8 e)] [h2 : SizeIs P e 1] [h3 : AggIs P e false] [h4 : SizeIs P t 8] (hv : vs.length = 8) :
  sliceM P (H ++ [a] ++ [vs.map uA]) t (.ptr (H.length + 1) 0) (some (.v (.int .i64 8))) none none = some (.sl [], H ++ [a] ++ [vs.map uA]) := by
 rw [slice8 hv]; rfl
theorem copyF [h1 : UndIs P t (.slice e)] [h2 : UndIs P u (.slice e')] [h3 : SizeIs P e 1] (hy : ys.length ≤ 8) :
  copyM P (H ++ [a] ++ [(Ho.zeros 8).map uA]) t u (.mr (H.length + 1) 0 8 1 false) (.sl (ys.map uA)) = some (.i (ys.length : Nat), H ++ [a] ++ [(ys ++ Ho.zeros (8 - ys.length)).map uA]) := by
 by_cases h0 : ys.length = 0
 ·rw [copy0 h0, List.eq_nil_of_length_eq_zero h0]; rfl
 ·rw [copy8 rfl (by omega) (by omega) (by omega)]
  rw [Nat.min_eq_left hy, List.take_of_length_le hy, show (Ho.zeros 8).take 0 = [] from rfl, List.nil_append, show (Ho.zeros 8).drop (0 + ys.length) = Ho.zeros (8 - ys.length) from by unfold Ho.zeros; rw [Nat.zero_add, List.drop_replicate]]
theorem copyS {xs : List Int} [h1 : UndIs P t (.slice e)] [h2 : UndIs P u (.slice e')] [h3 : SizeIs P e 1] (h0 : 0 < ys.length) (hy : xs.length + ys.length ≤ 8) :
  copyM P (H ++ [a] ++ [(xs ++ Ho.zeros (8 - xs.length)).map uA]) t u (.mr (H.length + 1) (8 - ys.length) (8 - (8 - ys.length)) 1 false) (.sl (ys.map uA)) = some (.i (ys.length : Nat), H ++ [a] ++ [(xs ++ Ho.zeros (8 - xs.length - ys.length) ++ ys).map uA]) := by
 rw [copy8 (by simp [Ho.zeros]; omega) h0 (by omega) (by omega)]
 have e1 : 8 - (8 - ys.length) = ys.length := by omega
 rw [e1, Nat.min_self, List.take_of_length_le (Nat.le_refl ys.length), show 8 - ys.length + ys.length = 8 by omega]
 have e2 : (xs ++ Ho.zeros (8 - xs.length)).drop 8 = [] := List.drop_of_length_le (by simp [Ho.zeros]; omega)
 have e3 : (xs ++ Ho.zeros (8 - xs.length)).take (8 - ys.length) = xs ++ Ho.zeros (8 - xs.length - ys.length) := by
  rw [List.take_append, List.take_of_length_le (by omega)]
  unfold Ho.zeros
  rw [List.take_replicate]
  congr 2
  omega
 rw [e2, e3, List.append_nil]
theorem pre2 {b : List AV} : H <+: H ++ [a] ++ [b] := ⟨[a] ++ [b], by simp⟩
theorem copyNN [h1 : UndIs P t (.slice e)] [h2 : UndIs P u (.slice e')] [h3 : SizeIs P e 1] {K : Heap} :
  copyM P K t u (.sl []) (.sl []) = some (.i 0, K) := copyN (ys := [])
theorem load8 (hv : vs.length = 8) : plainD (vs.map uA) (if 8 ≤ (vs.map uA).length then some (AV.agg ((vs.map uA).take 8)) else none) = some (.agg (vs.map uA)) := by
 unfold plainD
 rw [if_pos (plainRow_one one_u), if_pos (by simp [hv]), List.take_of_length_le (by simp [hv])]
end
theorem parse6_w (s : List UInt8) (hs : s.length ≤ 1000000) : WF Tryz.prog cfg 30 [.str s] H (fun r H' => r = .tup [.agg ((Ho.p6 s).1.map uA), .i (Ho.p6 s).2] ∧ H <+: H') := by
 have hm : ∀ d, cfg.muF 30 d = (d == 62 || d == 64 || d == 68 || d == 70) := fun _ => rfl
 have hz : ∀ d, cfg.fzF 30 d = (false) := fun _ => rfl
 have ht : ∀ d, cfg.tkF 30 d = (false) := fun _ => rfl
 have hr_ : ∀ g, cfg.raw g = (g == 152 || g == 118) := fun _ => rfl
 refine rF_fn rfl rfl Tryz.func30 rfl ?_
 by_cases h4000 : 4000 < s.length
 ·have hp : Ho.p6 s = (Ho.zeros 8, 11) := if_pos h4000
  rw [hp]
  have z8 : (Ho.zeros 8).length = 8 := rfl
  repeat' first|simp (disch:=first|omega|assumption|decide) only[go_sem,hm,hz,ht,hr_,ZZ,g2b,g2a,s2a,load8,store8,wdl,bind_some_,map_some_,oneD_fold]|(apply ifP_in<;>intro)
  exact pre2
 ·have hcl := Ho.cut_len s
  repeat' first|simp (disch:=first|omega|assumption|decide) only[go_sem,hm,hz,ht,hr_,cut_e,wdl,bind_some_,map_some_,oneD_fold]|(apply ifP_in<;>intro)
  refine rF_use (list_w (Lib.cut s Ho.DC).1 (!(Lib.cut s Ho.DC).2.2) (by omega)) ?_
  rintro _ H1 ⟨⟨l, ok, rfl, hll, hl6⟩, rfl⟩
  repeat' first|simp (disch:=first|omega|assumption|decide) only[go_sem,hm,hz,ht,hr_,wdl,bind_some_,map_some_,oneD_fold]|(apply ifP_in<;>intro)
  refine rF_use (list_w (Lib.cut s Ho.DC).2.1 true (by omega)) ?_
  rintro _ H1 ⟨⟨m, fine, rfl, hml, hm6⟩, rfl⟩
  have hb6 : Ho.b6 s = if (Lib.cut s Ho.DC).2.2 = true then (Ho.list6 false (Lib.cut s Ho.DC).1).bind fun a => (Ho.list6 true (Lib.cut s Ho.DC).2.1).bind fun b => if a.length + b.length ≤ 7 then some (a ++ Ho.zeros (8 - a.length - b.length) ++ b) else none
   else (Ho.list6 true s).bind fun a => if a.length = 8 then some a else none := rfl
  have hsf : (Lib.cut s Ho.DC).2.2 = false → (Lib.cut s Ho.DC).1 = s ∧ (Lib.cut s Ho.DC).2.1 = [] := fun h => by rw [Ho.cut_false h]; exact ⟨rfl, rfl⟩
  have hp6 : Ho.p6 s = match Ho.b6 s with
   | some l => (l, 0)
   | none => (Ho.zeros 8, 4) := if_neg h4000
  have hpn : Ho.b6 s = none → Ho.p6 s = (Ho.zeros 8, 4) := fun h => by rw [hp6, h]
  have hpy : ∀ l, Ho.b6 s = some l → Ho.p6 s = (l, 0) := fun l h => by rw [hp6, h]
  generalize (Lib.cut s Ho.DC).1 = fr at *
  generalize (Lib.cut s Ho.DC).2.1 = bk at *
  generalize (Lib.cut s Ho.DC).2.2 = sh at *
  have z8 : (Ho.zeros 8).length = 8 := rfl
  cases sh with
  | false =>
   obtain ⟨rfl, rfl⟩ := hsf rfl
   rw [if_neg (by simp)] at hb6
   have hm0 : (if fine = true then some m else none) = some [] := hm6.symm.trans rfl
   cases fine with
   | false => cases hm0
   | true =>
   have hm0 : m = [] := by injection hm0
   subst hm0
   cases ok with
   | false =>
    rw [hpn (by rw [hb6, show Ho.list6 true fr = none from hl6]; rfl)]
    repeat' first|simp (disch:=first|omega|assumption|decide) only[go_sem,hm,hz,ht,hr_,ZZ,g2b,g2a,s2a,load8,store8,wdl,bind_some_,map_some_,oneD_fold]|(apply ifP_in<;>intro)
    exact pre2
   | true =>
    by_cases h8 : l.length = 8
    ·rw [hpy l (by rw [hb6, show Ho.list6 true fr = some l from hl6, Option.bind_some, if_pos h8])]
     have hl8 : l.length ≤ 8 := by omega
     have hv8 : (l ++ Ho.zeros (8 - l.length)).length = 8 := by simp [Ho.zeros]; omega
     have hle : l ++ Ho.zeros (8 - l.length) = l := by rw [h8]; simp [Ho.zeros]
     have hz0 : AV.sl [] = .sl (([] : List Int).map uA) := rfl
     repeat' first|simp (disch:=first|omega|assumption|decide) only[go_sem,hm,hz,ht,hr_,ZZ,g2b,g2a,s2a,load8,store8,sliceA8,sliceC8,copyF,copyNN,wdl,bind_some_,map_some_,oneD_fold]|(apply ifP_in<;>intro)
     exact ⟨by rw [hle], pre2⟩
    ·rw [hpn (by rw [hb6, show Ho.list6 true fr = some l from hl6, Option.bind_some, if_neg h8])]
     repeat' first|simp (disch:=first|omega|assumption|decide) only[go_sem,hm,hz,ht,hr_,ZZ,g2b,g2a,s2a,load8,store8,wdl,bind_some_,map_some_,oneD_fold]|(apply ifP_in<;>intro)
     exact pre2
  | true =>
   rw [if_pos rfl] at hb6
   cases ok with
   | false =>
    rw [hpn (by rw [hb6, show Ho.list6 false fr = none from hl6]; rfl)]
    repeat' first|simp (disch:=first|omega|assumption|decide) only[go_sem,hm,hz,ht,hr_,ZZ,g2b,g2a,s2a,load8,store8,wdl,bind_some_,map_some_,oneD_fold]|(apply ifP_in<;>intro)
    exact pre2
   | true =>
    rw [show Ho.list6 false fr = some l from hl6, Option.bind_some] at hb6
    cases fine with
    | false =>
     rw [hpn (by rw [hb6, show Ho.list6 true bk = none from hm6]; rfl)]
     repeat' first|simp (disch:=first|omega|assumption|decide) only[go_sem,hm,hz,ht,hr_,ZZ,g2b,g2a,s2a,load8,store8,wdl,bind_some_,map_some_,oneD_fold]|(apply ifP_in<;>intro)
     exact pre2
    | true =>
     rw [show Ho.list6 true bk = some m from hm6, Option.bind_some] at hb6
     by_cases h7 : l.length + m.length ≤ 7
     ·rw [hpy _ (by rw [hb6, if_pos h7])]
      have hl8 : l.length ≤ 8 := by omega
      have hlm : l.length + m.length ≤ 8 := by omega
      have hm8 : m.length ≤ 8 := by omega
      have hv8 : (l ++ Ho.zeros (8 - l.length)).length = 8 := by simp [Ho.zeros]; omega
      have hw8 : (l ++ Ho.zeros (8 - l.length - m.length) ++ m).length = 8 := by simp [Ho.zeros]; omega
      by_cases hm0 : m.length = 0
      ·have := List.eq_nil_of_length_eq_zero hm0
       subst this
       repeat' first|simp (disch:=first|omega|assumption|decide) only[go_sem,hm,hz,ht,hr_,ZZ,g2b,g2a,s2a,load8,store8,sliceA8,sliceC8,copyF,copyNN,wdl,bind_some_,map_some_,oneD_fold]|(apply ifP_in<;>intro)
       exact ⟨by simp, pre2⟩
      ·have hmp : 0 < m.length := by omega
       repeat' first|simp (disch:=first|omega|assumption|decide) only[go_sem,hm,hz,ht,hr_,ZZ,g2b,g2a,s2a,load8,store8,sliceA8,sliceB8,copyF,copyS,wdl,bind_some_,map_some_,oneD_fold]|(apply ifP_in<;>intro)
       exact pre2
     ·rw [hpn (by rw [hb6, if_neg h7])]
      repeat' first|simp (disch:=first|omega|assumption|decide) only[go_sem,hm,hz,ht,hr_,ZZ,g2b,g2a,s2a,load8,store8,wdl,bind_some_,map_some_,oneD_fold]|(apply ifP_in<;>intro)
      exact pre2
end Hs
end Go.Proofs
/- Walks: numbers of eight pieces, the document's side. -/
set_option linter.unusedVariables false
set_option linter.unusedSimpArgs false
namespace Go.Proofs
open Go.Lv
namespace Hs
open Pu Ut Utf
variable {H : Heap}
section
variable {P : Program} {a : List AV} {vs ys : List Int} {t e u e' : TypeId}
theorem storeU [h1 : SizeIs P t 1] {i : Nat} {v : Int} (hi : i < vs.length) : storeC P t (H ++ [a] ++ [vs.map uA]) (H.length + 1) i (.v (.int .u16 v)) (vs.map uA) = some (H ++ [a] ++ [(vs.set i v).map uA]) := by
 unfold storeC
 simp only [h1.h, Option.bind_some]
 rw [if_pos ⟨rfl, rfl, by simp; omega, by omega, plainRow_one one_u⟩, s2b]
 have e1 : (vs.map uA).take i ++ AV.cells (.v (.int .u16 v)) ++ (vs.map uA).drop (i + 1) = (vs.set i v).map uA := by
  rw [List.set_eq_take_append_cons_drop, if_pos hi]
  simp [AV.cells]
 rw [e1]
theorem storeSU {i : Nat} {v : Int} (hi : i < vs.length) : storeS (H ++ [a] ++ [vs.map uA]) (H.length + 1) i (.v (.int .u16 v)) (vs.map uA) = some (H ++ [a] ++ [(vs.set i v).map uA]) := by
 unfold storeS
 simp [hi, plainRow_one one_u, s2b]
theorem fill_set {xs zs : List Int} {k : Nat} (v : Int) : (xs ++ Ho.zeros (k + 1) ++ zs).set xs.length v = (xs ++ [v]) ++ Ho.zeros k ++ zs := by
 unfold Ho.zeros
 rw [List.replicate_succ]
 simp
end
theorem fill_take {l : List Int} {i n : Nat} (h : i < l.length) (hn : i < n) : (l.take i ++ Ho.zeros (n - i)).set i (l.getD i 0) = l.take (i + 1) ++ Ho.zeros (n - (i + 1)) := by
 have hl : (l.take i).length = i := by simp; omega
 have := fill_set (xs := l.take i) (zs := []) (k := n - (i + 1)) (l.getD i 0)
 rw [hl, show n - (i + 1) + 1 = n - i by omega, List.append_nil, List.append_nil] at this
 rw [this, List.take_succ_eq_append_getElem h, xgD, xgE h]; rfl
set_option maxHeartbeats 4000000 in
theorem parse6_r (s : List UInt8) (hs : s.length ≤ 1000000) : WF Tryz.prog cfg 46 [.str s] H (fun r H' => r = .tup [.agg ((Ho.p6 s).1.map uA), .i (Ho.p6 s).2] ∧ H <+: H') := by
 have hm : ∀ d, cfg.muF 46 d = (false) := fun _ => rfl
 have hz : ∀ d, cfg.fzF 46 d = (false) := fun _ => rfl
 have ht : ∀ d, cfg.tkF 46 d = (false) := fun _ => rfl
 have hr_ : ∀ g, cfg.raw g = (g == 152 || g == 118) := fun _ => rfl
 refine rF_fn rfl rfl Tryz.func46 rfl ?_
 have z8 : (Ho.zeros 8).length = 8 := rfl
 by_cases h4000 : 4000 < s.length
 ·have hp : Ho.p6 s = (Ho.zeros 8, 11) := if_pos h4000
  rw [hp]
  repeat' first|simp (disch:=first|omega|assumption|decide) only[go_sem,hm,hz,ht,hr_,ZZ,g2b,g2a,s2a,load8,store8,wdl,bind_some_,map_some_,oneD_fold]|(apply ifP_in<;>intro)
  exact pre2
 ·have hp6 : Ho.p6 s = match Ho.b6 s with
   | some l => (l, 0)
   | none => (Ho.zeros 8, 4) := if_neg h4000
  have hpn : Ho.b6 s = none → Ho.p6 s = (Ho.zeros 8, 4) := fun h => by rw [hp6, h]
  have hpy : ∀ l, Ho.b6 s = some l → Ho.p6 s = (l, 0) := fun l h => by rw [hp6, h]
  have hb6 : Ho.b6 s = if (Lib.cut s Ho.DC).2.2 = true then (Ho.list6 false (Lib.cut s Ho.DC).1).bind fun a => (Ho.list6 true (Lib.cut s Ho.DC).2.1).bind fun b => if a.length + b.length ≤ 7 then some (a ++ Ho.zeros (8 - a.length - b.length) ++ b) else none
   else (Ho.list6 true s).bind fun a => if a.length = 8 then some a else none := rfl
  clear hp6
  repeat' first|simp (disch:=first|omega|assumption|decide) only[go_sem,hm,hz,ht,hr_,ZZ,wdl,bind_some_,map_some_,oneD_fold]|(apply ifP_in<;>intro)
  refine rL_loop (σ := Nat) (fun i e M => M = H ++ [(Ho.zeros 8).map uA] ++ [(Ho.zeros 8).map uA] ∧ e 0 = .str s ∧ e 2 = .ptr H.length 0 ∧ e 4 = .ptr (H.length + 1) 0 ∧ e 6 = .i i ∧ i ≤ s.length ∧ ((e 5 = .i (-1) ∧ ∀ j, j < i → Lib.occAt s Ho.DC j = false) ∨ ∃ k : Nat, e 5 = .i k ∧ k < s.length ∧ i = k + 1 ∧ Lib.occAt s Ho.DC k = true ∧ ∀ j, j < k → Lib.occAt s Ho.DC j = false)) (fun i => s.length - i) 0 ?_ ?_
  ·refine ⟨?_, ?_, ?_, ?_, ?_, by omega, .inl ⟨?_, by simp⟩⟩
   all_goals first | rfl | (simp (disch := first | assumption | omega) only [go_sem]; done) | (simp (disch := first | assumption | omega) only [go_sem]; rfl) | (simp (disch := first | assumption | omega) only [go_sem, len_add_]; done) | (simp (disch := first | assumption | omega) only [go_sem, len_add_]; rfl)
  ·rintro i e M ⟨rfl, g0, g2, g4, g6, i1, ⟨g5, hno⟩ | ⟨k, g5, k1, rfl, hk, hno⟩⟩
   ·by_cases hi : i + 1 < s.length
    ·have hix0 : ix s (i : Int) = s.getD i 0 := ix_get (by omega)
     have hix1 := ix_off (s := s) (i := i) (k := 1) hi
     simp only [Int.natCast_one] at hix1
     have hoc := Ho.occ_dc s i
     generalize s.getD i 0 = x at *
     generalize s.getD (i + 1) 0 = y at *
     by_cases hx : x = 58
     ·by_cases hy : y = 58
      ·subst hx hy
       repeat' first|simp (disch:=first|omega|assumption|decide) only[go_sem,hm,hz,ht,hr_,g0,g2,g4,g6,g5,hix0,hix1]|(apply ifP_in<;>intro)
       exact ⟨i + 1, ⟨rfl, by omega, .inr ⟨i, rfl, by omega, rfl, by rw [hoc]; exact decide_eq_true ⟨hi, rfl, rfl⟩, hno⟩⟩, by omega⟩
      ·have hyn : ¬ ((y.toNat : Int) = 58) := fun h => hy (UInt8.toNat.inj (by simpa using (by omega : y.toNat = 58)))
       subst hx
       repeat' first|simp (disch:=first|omega|assumption|decide) only[go_sem,hm,hz,ht,hr_,g0,g2,g4,g6,g5,hix0,hix1]|(apply ifP_in<;>intro)
       exact ⟨i + 1, ⟨rfl, by omega, .inl (fun j hj => by
        rcases Nat.lt_succ_iff_lt_or_eq.1 hj with h | h
        ·exact hno j h
        ·subst h; rw [hoc]; exact decide_eq_false fun h => hy h.2.2)⟩, by omega⟩
     ·have hxn : ¬ ((x.toNat : Int) = 58) := fun h => hx (UInt8.toNat.inj (by simpa using (by omega : x.toNat = 58)))
      repeat' first|simp (disch:=first|omega|assumption|decide) only[go_sem,hm,hz,ht,hr_,g0,g2,g4,g6,g5,hix0,hix1]|(apply ifP_in<;>intro)
      exact ⟨i + 1, ⟨rfl, by omega, .inl (fun j hj => by
       rcases Nat.lt_succ_iff_lt_or_eq.1 hj with h | h
       ·exact hno j h
       ·subst h; rw [hoc]; exact decide_eq_false fun h => hx h.2.1)⟩, by omega⟩
    ·have hcut := Ho.cut_none (s := s) (fun j hj => by
      by_cases h : j < i
      ·exact hno j h
      ·rw [Ho.occ_dc]; exact decide_eq_false fun h2 => by omega)
     rw [hcut, if_neg (by simp)] at hb6
     repeat' first|simp (disch:=first|omega|assumption|decide) only[go_sem,hm,hz,ht,hr_,g0,g2,g4,g6,g5]|(apply ifP_in<;>intro)
     refine rF_use (pieces_r s true hs) ?_
     rintro _ H1 ⟨⟨l, ok, rfl, hll, hl6⟩, rfl⟩
     cases ok with
     | false =>
      rw [hpn (by rw [hb6, show Ho.list6 true s = none from hl6]; rfl)]
      repeat' first|simp (disch:=first|omega|assumption|decide) only[go_sem,hm,hz,ht,hr_,g0,g2,g4,g6,g5,ZZ,g2b,g2a,s2a,load8,store8,wdl,bind_some_,map_some_,oneD_fold]|(apply ifP_in<;>intro)
      exact pre2
     | true =>
      have hl6' : Ho.list6 true s = some l := hl6
      have hbd := Ho.list6_bnd hl6'
      by_cases h8 : l.length = 8
      ·rw [hpy l (by rw [hb6, hl6', Option.bind_some, if_pos h8])]
       repeat' first|simp (disch:=first|omega|assumption|decide) only[go_sem,hm,hz,ht,hr_,g0,g2,g4,g6,g5,ZZ,g2b,g2a,s2a,load8,store8,wdl,bind_some_,map_some_,oneD_fold]|(apply ifP_in<;>intro)
       refine rL_loop (σ := Nat) (fun i e M => M = H ++ [(Ho.zeros 8).map uA] ++ [(l.take i ++ Ho.zeros (8 - i)).map uA] ∧ e 2 = .ptr H.length 0 ∧ e 4 = .ptr (H.length + 1) 0 ∧ e 7 = .sl (l.map iA) ∧ e 9 = .i i ∧ i ≤ 8) (fun i => 8 - i) 0 ?_ ?_
       ·refine ⟨rfl, ?_, ?_, ?_, ?_, by omega⟩
        all_goals first | (simp (disch := first | assumption | omega) only [go_sem, g2, g4]; done) | (simp (disch := first | assumption | omega) only [go_sem, g2, g4]; rfl)
       ·clear g0 g2 g4 g6 g5
        rintro i e M ⟨rfl, g2, g4, g7, g9, i2⟩
        by_cases hi : i < 8
        ·have hix := ix_int (l := l) (i := i) (by omega)
         have hvb := hbd (l.getD i 0) (by rw [xgD, xgE (show i < l.length by omega)]; exact List.getElem_mem _)
         have hw : (l.getD i 0) % 65536 = l.getD i 0 := by omega
         have hst := fill_take (l := l) (i := i) (n := 8) (by omega) hi
         have hvl : i < (l.take i ++ Ho.zeros (8 - i)).length := by simp [Ho.zeros]; omega
         generalize l.getD i 0 = v at *
         repeat' first|simp (disch:=first|omega|assumption|decide) only[go_sem,hm,hz,ht,hr_,g2,g4,g7,g9,hix,wrapU,hw,g2b,storeU,wdl,bind_some_,map_some_,oneD_fold]|(apply ifP_in<;>intro)
         exact ⟨i + 1, ⟨by rw [hst], rfl, by omega⟩, by omega⟩
        ·have : i = 8 := by omega
         subst this
         have hle : l.take 8 ++ Ho.zeros (8 - 8) = l := by rw [List.take_of_length_le (by omega)]; simp [Ho.zeros]
         rw [hle]
         repeat' first|simp (disch:=first|omega|assumption|decide) only[go_sem,hm,hz,ht,hr_,g2,g4,g7,g9,g2b,g2a,s2a,load8,store8,wdl,bind_some_,map_some_,oneD_fold]|(apply ifP_in<;>intro)
         exact pre2
      ·rw [hpn (by rw [hb6, hl6', Option.bind_some, if_neg h8])]
       repeat' first|simp (disch:=first|omega|assumption|decide) only[go_sem,hm,hz,ht,hr_,g0,g2,g4,g6,g5,ZZ,g2b,g2a,s2a,load8,store8,wdl,bind_some_,map_some_,oneD_fold]|(apply ifP_in<;>intro)
       exact pre2
   ·have hcut := Ho.cut_some (show k ≤ s.length by omega) hk hno
    rw [hcut, if_pos rfl] at hb6
    have hk2 : k + 1 < s.length := by
     rw [Ho.occ_dc] at hk
     exact (of_decide_eq_true hk).1
    simp only at hb6
    have hkl : (s.take k).length ≤ 1000000 := by simp; omega
    have hkr : (s.drop (k + 2)).length ≤ 1000000 := by simp; omega
    by_cases hq : k + 1 + 1 < s.length
    ·repeat' first|simp (disch:=first|omega|assumption|decide) only[go_sem,hm,hz,ht,hr_,g0,g2,g4,g6,g5]|(apply ifP_in<;>intro)
     refine rF_use (pieces_r (s.take k) false hkl) ?_
     rintro _ H1 ⟨⟨a, ok, rfl, hal, ha6⟩, rfl⟩
     repeat' first|simp (disch:=first|omega|assumption|decide) only[go_sem,hm,hz,ht,hr_,g0,g2,g4,g6,g5]|(apply ifP_in<;>intro)
     refine rF_use (pieces_r (s.drop (k + 2)) true hkr) ?_
     rintro _ H1 ⟨⟨b, yes, rfl, hbl, hb6'⟩, rfl⟩
     cases ok with
     | false =>
      rw [hpn (by rw [hb6, show Ho.list6 false (s.take k) = none from ha6]; rfl)]
      repeat' first|simp (disch:=first|omega|assumption|decide) only[go_sem,hm,hz,ht,hr_,g0,g2,g4,g6,g5,ZZ,g2b,g2a,s2a,load8,store8,wdl,bind_some_,map_some_,oneD_fold]|(apply ifP_in<;>intro)
      exact pre2
     | true =>
      have ha7 : Ho.list6 false (s.take k) = some a := ha6
      rw [ha7, Option.bind_some] at hb6
      have hba := Ho.list6_bnd ha7
      cases yes with
      | false =>
       rw [hpn (by rw [hb6, show Ho.list6 true (s.drop (k + 2)) = none from hb6']; rfl)]
       repeat' first|simp (disch:=first|omega|assumption|decide) only[go_sem,hm,hz,ht,hr_,g0,g2,g4,g6,g5,ZZ,g2b,g2a,s2a,load8,store8,wdl,bind_some_,map_some_,oneD_fold]|(apply ifP_in<;>intro)
       exact pre2
      | true =>
       have hb7 : Ho.list6 true (s.drop (k + 2)) = some b := hb6'
       rw [hb7, Option.bind_some] at hb6
       have hbb := Ho.list6_bnd hb7
       by_cases h7 : a.length + b.length ≤ 7
       ·rw [hpy _ (by rw [hb6, if_pos h7])]
        repeat' first|simp (disch:=first|omega|assumption|decide) only[go_sem,hm,hz,ht,hr_,g0,g2,g4,g6,g5,ZZ,g2b,g2a,s2a,load8,store8,wdl,bind_some_,map_some_,oneD_fold]|(apply ifP_in<;>intro)
        refine rL_loop (σ := Nat) (fun i e M => M = H ++ [(Ho.zeros 8).map uA] ++ [(a.take i ++ Ho.zeros (8 - i)).map uA] ∧ e 2 = .ptr H.length 0 ∧ e 4 = .ptr (H.length + 1) 0 ∧ e 10 = .sl (a.map iA) ∧ e 12 = .sl (b.map iA) ∧ e 14 = .i i ∧ i ≤ a.length) (fun i => a.length - i) 0 ?_ ?_
        ·refine ⟨rfl, ?_, ?_, ?_, ?_, ?_, by omega⟩
         all_goals first | (simp (disch := first | assumption | omega) only [go_sem, g2, g4]; done) | (simp (disch := first | assumption | omega) only [go_sem, g2, g4]; rfl)
        ·clear g0 g2 g4 g6 g5
         rintro i e M ⟨rfl, g2, g4, g10, g12, g14, i2⟩
         by_cases hi : i < a.length
         ·have hix := ix_int (l := a) (i := i) (by omega)
          have hvb := hba (a.getD i 0) (by rw [xgD, xgE hi]; exact List.getElem_mem _)
          have hw : (a.getD i 0) % 65536 = a.getD i 0 := by omega
          have hst := fill_take (l := a) (i := i) (n := 8) hi (by omega)
          have hvl : i < (a.take i ++ Ho.zeros (8 - i)).length := by simp [Ho.zeros]; omega
          generalize a.getD i 0 = v at *
          repeat' first|simp (disch:=first|omega|assumption|decide) only[go_sem,hm,hz,ht,hr_,g2,g4,g10,g12,g14,hix,wrapU,hw,g2b,storeU,wdl,bind_some_,map_some_,oneD_fold]|(apply ifP_in<;>intro)
          exact ⟨i + 1, ⟨by rw [hst], rfl, by omega⟩, by omega⟩
         ·have : i = a.length := by omega
          subst this
          rw [List.take_length]
          repeat' first|simp (disch:=first|omega|assumption|decide) only[go_sem,hm,hz,ht,hr_,g2,g4,g10,g12,g14,wdl,bind_some_,map_some_,oneD_fold]|(apply ifP_in<;>intro)
          have hzz : a ++ Ho.zeros (8 - a.length) = a ++ Ho.zeros (8 - a.length - b.length) ++ (b.take 0 ++ Ho.zeros (b.length - 0)) := by
           unfold Ho.zeros
           simp
           congr 1; omega
          rw [hzz]
          refine rL_loop (σ := Nat) (fun i e M => M = H ++ [(Ho.zeros 8).map uA] ++ [(a ++ Ho.zeros (8 - a.length - b.length) ++ (b.take i ++ Ho.zeros (b.length - i))).map uA] ∧ e 2 = .ptr H.length 0 ∧ e 4 = .ptr (H.length + 1) 0 ∧ e 12 = .sl (b.map iA) ∧ e 15 = .i i ∧ i ≤ b.length) (fun i => b.length - i) 0 ?_ ?_
          ·refine ⟨rfl, ?_, ?_, ?_, ?_, by omega⟩
           all_goals first | (simp (disch := first | assumption | omega) only [go_sem, g2, g4, g12]; done) | (simp (disch := first | assumption | omega) only [go_sem, g2, g4, g12]; rfl)
          ·clear g2 g4 g10 g12 g14
           rintro i e M ⟨rfl, g2, g4, g12, g15, i3⟩
           by_cases hib : i < b.length
           ·have hix := ix_int (l := b) (i := i) (by omega)
            have hvb := hbb (b.getD i 0) (by rw [xgD, xgE hib]; exact List.getElem_mem _)
            have hw : (b.getD i 0) % 65536 = b.getD i 0 := by omega
            have hst := fill_take (l := b) (i := i) (n := b.length) hib hib
            generalize b.getD i 0 = v at *
            have hn : (8 - (b.length : Int) + (i : Int)).toNat = 8 - b.length + i := by omega
            have hfl : (a ++ Ho.zeros (8 - a.length - b.length)).length = 8 - b.length := by simp [Ho.zeros]; omega
            have hvl : 8 - b.length + i < (a ++ Ho.zeros (8 - a.length - b.length) ++ (b.take i ++ Ho.zeros (b.length - i))).length := by rw [List.length_append, hfl]; simp [Ho.zeros]; omega
            have hset : (a ++ Ho.zeros (8 - a.length - b.length) ++ (b.take i ++ Ho.zeros (b.length - i))).set (8 - b.length + i) v = a ++ Ho.zeros (8 - a.length - b.length) ++ (b.take (i + 1) ++ Ho.zeros (b.length - (i + 1))) := by
             rw [List.set_append_right _ _ (by omega), hfl, show 8 - b.length + i - (8 - b.length) = i by omega, hst]
            repeat' first|simp (disch:=first|omega|assumption|decide) only[go_sem,hm,hz,ht,hr_,g2,g4,g12,g15,hix,wrapU,hw,g2b,hn,storeU,storeSU,wdl,bind_some_,map_some_,oneD_fold]|(apply ifP_in<;>intro)
            exact ⟨i + 1, ⟨by rw [hset], rfl, by omega⟩, by omega⟩
           ·have : i = b.length := by omega
            subst this
            have hle : b.take b.length ++ Ho.zeros (b.length - b.length) = b := by rw [List.take_length]; simp [Ho.zeros]
            have hv8 : (a ++ Ho.zeros (8 - a.length - b.length) ++ b).length = 8 := by simp [Ho.zeros]; omega
            rw [hle]
            repeat' first|simp (disch:=first|omega|assumption|decide) only[go_sem,hm,hz,ht,hr_,g2,g4,g12,g15,g2b,g2a,s2a,load8,store8,wdl,bind_some_,map_some_,oneD_fold]|(apply ifP_in<;>intro)
            exact pre2
       ·rw [hpn (by rw [hb6, if_neg h7])]
        repeat' first|simp (disch:=first|omega|assumption|decide) only[go_sem,hm,hz,ht,hr_,g0,g2,g4,g6,g5,ZZ,g2b,g2a,s2a,load8,store8,wdl,bind_some_,map_some_,oneD_fold]|(apply ifP_in<;>intro)
        exact pre2
    ·repeat' first|simp (disch:=first|omega|assumption|decide) only[go_sem,hm,hz,ht,hr_,g0,g2,g4,g6,g5]|(apply ifP_in<;>intro)
     refine rF_use (pieces_r (s.take k) false hkl) ?_
     rintro _ H1 ⟨⟨a, ok, rfl, hal, ha6⟩, rfl⟩
     repeat' first|simp (disch:=first|omega|assumption|decide) only[go_sem,hm,hz,ht,hr_,g0,g2,g4,g6,g5]|(apply ifP_in<;>intro)
     refine rF_use (pieces_r (s.drop (k + 2)) true hkr) ?_
     rintro _ H1 ⟨⟨b, yes, rfl, hbl, hb6'⟩, rfl⟩
     cases ok with
     | false =>
      rw [hpn (by rw [hb6, show Ho.list6 false (s.take k) = none from ha6]; rfl)]
      repeat' first|simp (disch:=first|omega|assumption|decide) only[go_sem,hm,hz,ht,hr_,g0,g2,g4,g6,g5,ZZ,g2b,g2a,s2a,load8,store8,wdl,bind_some_,map_some_,oneD_fold]|(apply ifP_in<;>intro)
      exact pre2
     | true =>
      have ha7 : Ho.list6 false (s.take k) = some a := ha6
      rw [ha7, Option.bind_some] at hb6
      have hba := Ho.list6_bnd ha7
      cases yes with
      | false =>
       rw [hpn (by rw [hb6, show Ho.list6 true (s.drop (k + 2)) = none from hb6']; rfl)]
       repeat' first|simp (disch:=first|omega|assumption|decide) only[go_sem,hm,hz,ht,hr_,g0,g2,g4,g6,g5,ZZ,g2b,g2a,s2a,load8,store8,wdl,bind_some_,map_some_,oneD_fold]|(apply ifP_in<;>intro)
       exact pre2
      | true =>
       have hb7 : Ho.list6 true (s.drop (k + 2)) = some b := hb6'
       rw [hb7, Option.bind_some] at hb6
       have hbb := Ho.list6_bnd hb7
       by_cases h7 : a.length + b.length ≤ 7
       ·rw [hpy _ (by rw [hb6, if_pos h7])]
        repeat' first|simp (disch:=first|omega|assumption|decide) only[go_sem,hm,hz,ht,hr_,g0,g2,g4,g6,g5,ZZ,g2b,g2a,s2a,load8,store8,wdl,bind_some_,map_some_,oneD_fold]|(apply ifP_in<;>intro)
        refine rL_loop (σ := Nat) (fun i e M => M = H ++ [(Ho.zeros 8).map uA] ++ [(a.take i ++ Ho.zeros (8 - i)).map uA] ∧ e 2 = .ptr H.length 0 ∧ e 4 = .ptr (H.length + 1) 0 ∧ e 10 = .sl (a.map iA) ∧ e 12 = .sl (b.map iA) ∧ e 14 = .i i ∧ i ≤ a.length) (fun i => a.length - i) 0 ?_ ?_
        ·refine ⟨rfl, ?_, ?_, ?_, ?_, ?_, by omega⟩
         all_goals first | (simp (disch := first | assumption | omega) only [go_sem, g2, g4]; done) | (simp (disch := first | assumption | omega) only [go_sem, g2, g4]; rfl)
        ·clear g0 g2 g4 g6 g5
         rintro i e M ⟨rfl, g2, g4, g10, g12, g14, i2⟩
         by_cases hi : i < a.length
         ·have hix := ix_int (l := a) (i := i) (by omega)
          have hvb := hba (a.getD i 0) (by rw [xgD, xgE hi]; exact List.getElem_mem _)
          have hw : (a.getD i 0) % 65536 = a.getD i 0 := by omega
          have hst := fill_take (l := a) (i := i) (n := 8) hi (by omega)
          have hvl : i < (a.take i ++ Ho.zeros (8 - i)).length := by simp [Ho.zeros]; omega
          generalize a.getD i 0 = v at *
          repeat' first|simp (disch:=first|omega|assumption|decide) only[go_sem,hm,hz,ht,hr_,g2,g4,g10,g12,g14,hix,wrapU,hw,g2b,storeU,wdl,bind_some_,map_some_,oneD_fold]|(apply ifP_in<;>intro)
          exact ⟨i + 1, ⟨by rw [hst], rfl, by omega⟩, by omega⟩
         ·have : i = a.length := by omega
          subst this
          rw [List.take_length]
          repeat' first|simp (disch:=first|omega|assumption|decide) only[go_sem,hm,hz,ht,hr_,g2,g4,g10,g12,g14,wdl,bind_some_,map_some_,oneD_fold]|(apply ifP_in<;>intro)
          have hzz : a ++ Ho.zeros (8 - a.length) = a ++ Ho.zeros (8 - a.length - b.length) ++ (b.take 0 ++ Ho.zeros (b.length - 0)) := by
           unfold Ho.zeros
           simp
           congr 1; omega
          rw [hzz]
          refine rL_loop (σ := Nat) (fun i e M => M = H ++ [(Ho.zeros 8).map uA] ++ [(a ++ Ho.zeros (8 - a.length - b.length) ++ (b.take i ++ Ho.zeros (b.length - i))).map uA] ∧ e 2 = .ptr H.length 0 ∧ e 4 = .ptr (H.length + 1) 0 ∧ e 12 = .sl (b.map iA) ∧ e 15 = .i i ∧ i ≤ b.length) (fun i => b.length - i) 0 ?_ ?_
          ·refine ⟨rfl, ?_, ?_, ?_, ?_, by omega⟩
           all_goals first | (simp (disch := first | assumption | omega) only [go_sem, g2, g4, g12]; done) | (simp (disch := first | assumption | omega) only [go_sem, g2, g4, g12]; rfl)
          ·clear g2 g4 g10 g12 g14
           rintro i e M ⟨rfl, g2, g4, g12, g15, i3⟩
           by_cases hib : i < b.length
           ·have hix := ix_int (l := b) (i := i) (by omega)
            have hvb := hbb (b.getD i 0) (by rw [xgD, xgE hib]; exact List.getElem_mem _)
            have hw : (b.getD i 0) % 65536 = b.getD i 0 := by omega
            have hst := fill_take (l := b) (i := i) (n := b.length) hib hib
            generalize b.getD i 0 = v at *
            have hn : (8 - (b.length : Int) + (i : Int)).toNat = 8 - b.length + i := by omega
            have hfl : (a ++ Ho.zeros (8 - a.length - b.length)).length = 8 - b.length := by simp [Ho.zeros]; omega
            have hvl : 8 - b.length + i < (a ++ Ho.zeros (8 - a.length - b.length) ++ (b.take i ++ Ho.zeros (b.length - i))).length := by rw [List.length_append, hfl]; simp [Ho.zeros]; omega
            have hset : (a ++ Ho.zeros (8 - a.length - b.length) ++ (b.take i ++ Ho.zeros (b.length - i))).set (8 - b.length + i) v = a ++ Ho.zeros (8 - a.length - b.length) ++ (b.take (i + 1) ++ Ho.zeros (b.length - (i + 1))) := by
             rw [List.set_append_right _ _ (by omega), hfl, show 8 - b.length + i - (8 - b.length) = i by omega, hst]
            repeat' first|simp (disch:=first|omega|assumption|decide) only[go_sem,hm,hz,ht,hr_,g2,g4,g12,g15,hix,wrapU,hw,g2b,hn,storeU,storeSU,wdl,bind_some_,map_some_,oneD_fold]|(apply ifP_in<;>intro)
            exact ⟨i + 1, ⟨by rw [hset], rfl, by omega⟩, by omega⟩
           ·have : i = b.length := by omega
            subst this
            have hle : b.take b.length ++ Ho.zeros (b.length - b.length) = b := by rw [List.take_length]; simp [Ho.zeros]
            have hv8 : (a ++ Ho.zeros (8 - a.length - b.length) ++ b).length = 8 := by simp [Ho.zeros]; omega
            rw [hle]
            repeat' first|simp (disch:=first|omega|assumption|decide) only[go_sem,hm,hz,ht,hr_,g2,g4,g12,g15,g2b,g2a,s2a,load8,store8,wdl,bind_some_,map_some_,oneD_fold]|(apply ifP_in<;>intro)
            exact pre2
       ·rw [hpn (by rw [hb6, if_neg h7])]
        repeat' first|simp (disch:=first|omega|assumption|decide) only[go_sem,hm,hz,ht,hr_,g0,g2,g4,g6,g5,ZZ,g2b,g2a,s2a,load8,store8,wdl,bind_some_,map_some_,oneD_fold]|(apply ifP_in<;>intro)
        exact pre2
end Hs
end Go.Proofs
/- Walks: signs that a host may not hold. -/
set_option linter.unusedVariables false
set_option linter.unusedSimpArgs false
namespace Go.Proofs
open Go.Lv
namespace Hs
open Pu Ut Utf
variable {H : Heap}
def BAD : List UInt8 := [0, 9, 10, 13, 32, 35, 47, 58, 60, 62, 63, 64, 91, 92, 93, 94, 124]
def bad (s : List UInt8) : Bool := s.any fun c => decide (c ∈ BAD)
def lows (s : List UInt8) : Bool := s.any fun c => decide (c.toNat < 32 ∨ c.toNat = 37 ∨ c.toNat = 127)
theorem any_take {p : UInt8 → Bool} {s : List UInt8} {i : Nat} (h : i < s.length) : (s.take (i + 1)).any p = ((s.take i).any p || p s[i]) := by
 rw [List.take_succ_eq_append_getElem h, List.any_append]; simp
theorem any_yes {p : UInt8 → Bool} {s : List UInt8} {i : Nat} (h : i < s.length) (hp : p s[i] = true) : s.any p = true := List.any_eq_true.2 ⟨_, List.getElem_mem h, hp⟩
theorem has_w (s : List UInt8) (hs : s.length ≤ 1000000) : WF Tryz.prog cfg 20 [.str s] H (fun r H' => r = .b (bad s) ∧ H' = H) := by
 have hm : ∀ d, cfg.muF 20 d = (false) := fun _ => rfl
 have hz : ∀ d, cfg.fzF 20 d = (false) := fun _ => rfl
 have ht : ∀ d, cfg.tkF 20 d = (false) := fun _ => rfl
 have hr_ : ∀ g, cfg.raw g = (g == 152 || g == 118) := fun _ => rfl
 refine rF_fn rfl rfl Tryz.func20 rfl ?_
 repeat' first|simp (disch:=first|omega|assumption|decide) only[go_sem,hm,hz,ht,hr_]|(apply ifP_in<;>intro)
 refine rL_loop (σ := Nat) (fun i e H' => H' = H ∧ e 0 = .str s ∧ e 5 = .i s.length ∧ e 6 = .i i ∧ i ≤ s.length ∧ (s.take i).any (fun c => decide (c ∈ BAD)) = false) (fun i => s.length - i) 0 ?_ ?_
 ·refine ⟨rfl, ?_, ?_, ?_, by omega, rfl⟩
  all_goals first | (simp (disch := first | assumption | omega) only [go_sem]; done) | (simp (disch := first | assumption | omega) only [go_sem]; rfl)
 ·rintro i e H' ⟨rfl, g0, g5, g6, i1, hn⟩
  by_cases hi : i < s.length
  ·have hix := ix_at hi
   have hat := any_take (p := fun c => decide (c ∈ BAD)) hi
   have hay := any_yes (p := fun c => decide (c ∈ BAD)) hi
   generalize s[i] = x at *
   have hxx : (x.toNat : Int).toNat.toUInt8 = x := by simp
   have hxn : x.toNat.toUInt8 = x := by simp
   have him : ∀ {Q : K (AV → Heap → Prop)} {H : Heap}, @rF Tryz.prog cfg 37 [.str [0, 9, 10, 13, 32, 35, 47, 58, 60, 62, 63, 64, 91, 92, 93, 94, 124], byteA x] H Q = Q.v (.i (Lib.indexByte BAD x)) H := by
    intro Q H
    rw [indexByte_be, hxx]; rfl
   have hmm := index_mem x BAD
   generalize Lib.indexByte BAD x = q at *
   by_cases hq : 0 ≤ q
   ·rw [show bad s = true from hay (decide_eq_true (hmm.1 hq))]
    repeat' first|simp (disch:=first|omega|assumption|decide) only[go_sem,hm,hz,ht,hr_,g0,g5,g6,hix,him]|(apply ifP_in<;>intro)
   ·repeat' first|simp (disch:=first|omega|assumption|decide) only[go_sem,hm,hz,ht,hr_,g0,g5,g6,hix,him]|(apply ifP_in<;>intro)
    refine ⟨i + 1, ⟨rfl, by omega, ?_⟩, by omega⟩
    rw [hat, hn]
    exact decide_eq_false fun h => hq (hmm.2 h)
  ·have : i = s.length := by omega
   subst this
   rw [List.take_length] at hn
   rw [show bad s = false from hn]
   repeat' first|simp (disch:=first|omega|assumption|decide) only[go_sem,hm,hz,ht,hr_,g0,g5,g6]|(apply ifP_in<;>intro)
theorem low_w (s : List UInt8) (hs : s.length ≤ 1000000) : WF Tryz.prog cfg 34 [.str s] H (fun r H' => r = .b (lows s) ∧ H' = H) := by
 have hm : ∀ d, cfg.muF 34 d = (false) := fun _ => rfl
 have hz : ∀ d, cfg.fzF 34 d = (false) := fun _ => rfl
 have ht : ∀ d, cfg.tkF 34 d = (false) := fun _ => rfl
 have hr_ : ∀ g, cfg.raw g = (g == 152 || g == 118) := fun _ => rfl
 refine rF_fn rfl rfl Tryz.func34 rfl ?_
 repeat' first|simp (disch:=first|omega|assumption|decide) only[go_sem,hm,hz,ht,hr_]|(apply ifP_in<;>intro)
 refine rL_loop (σ := Nat) (fun i e H' => H' = H ∧ e 0 = .str s ∧ e 5 = .i s.length ∧ e 6 = .i i ∧ i ≤ s.length ∧ (s.take i).any (fun c => decide (c.toNat < 32 ∨ c.toNat = 37 ∨ c.toNat = 127)) = false) (fun i => s.length - i) 0 ?_ ?_
 ·refine ⟨rfl, ?_, ?_, ?_, by omega, rfl⟩
  all_goals first | (simp (disch := first | assumption | omega) only [go_sem]; done) | (simp (disch := first | assumption | omega) only [go_sem]; rfl)
 ·rintro i e H' ⟨rfl, g0, g5, g6, i1, hn⟩
  by_cases hi : i < s.length
  ·have hix := ix_at hi
   have hat := any_take (p := fun c => decide (c.toNat < 32 ∨ c.toNat = 37 ∨ c.toNat = 127)) hi
   have hay := any_yes (p := fun c => decide (c.toNat < 32 ∨ c.toNat = 37 ∨ c.toNat = 127)) hi
   generalize s[i] = x at *
   by_cases hq : x.toNat < 32 ∨ x.toNat = 37 ∨ x.toNat = 127
   ·rw [show lows s = true from hay (decide_eq_true hq)]
    rcases hq with hq | hq | hq
    ·repeat' first|simp (disch:=first|omega|assumption|decide) only[go_sem,hm,hz,ht,hr_,g0,g5,g6,hix]|(apply ifP_in<;>intro)
    ·repeat' first|simp (disch:=first|omega|assumption|decide) only[go_sem,hm,hz,ht,hr_,g0,g5,g6,hix]|(apply ifP_in<;>intro)
    ·repeat' first|simp (disch:=first|omega|assumption|decide) only[go_sem,hm,hz,ht,hr_,g0,g5,g6,hix]|(apply ifP_in<;>intro)
   ·repeat' first|simp (disch:=first|omega|assumption|decide) only[go_sem,hm,hz,ht,hr_,g0,g5,g6,hix]|(apply ifP_in<;>intro)
    refine ⟨i + 1, ⟨rfl, by omega, ?_⟩, by omega⟩
    rw [hat, hn]
    exact decide_eq_false hq
  ·have : i = s.length := by omega
   subst this
   rw [List.take_length] at hn
   rw [show lows s = false from hn]
   repeat' first|simp (disch:=first|omega|assumption|decide) only[go_sem,hm,hz,ht,hr_,g0,g5,g6]|(apply ifP_in<;>intro)
theorem has_e (s : List UInt8) (hs : s.length ≤ 1000000) {Q : K (AV → Heap → Prop)} : @rF Tryz.prog cfg 20 [.str s] H Q = Q.v (.b (bad s)) H := rF_eq (has_w s hs)
theorem low_e (s : List UInt8) (hs : s.length ≤ 1000000) {Q : K (AV → Heap → Prop)} : @rF Tryz.prog cfg 34 [.str s] H Q = Q.v (.b (lows s)) H := rF_eq (low_w s hs)
theorem among_r (s l : List UInt8) (hs : s.length ≤ 1000000) (hl : l.length ≤ 1000000) : WF Tryz.prog cfg 47 [.str s, .str l] H (fun r H' => r = .b (s.any fun c => decide (c ∈ l)) ∧ H' = H) := by
 have hm : ∀ d, cfg.muF 47 d = (false) := fun _ => rfl
 have hz : ∀ d, cfg.fzF 47 d = (false) := fun _ => rfl
 have ht : ∀ d, cfg.tkF 47 d = (false) := fun _ => rfl
 have hr_ : ∀ g, cfg.raw g = (g == 152 || g == 118) := fun _ => rfl
 refine rF_fn rfl rfl Tryz.func47 rfl ?_
 repeat' first|simp (disch:=first|omega|assumption|decide) only[go_sem,hm,hz,ht,hr_]|(apply ifP_in<;>intro)
 refine rL_loop (σ := Nat) (fun i e H' => H' = H ∧ e 0 = .str s ∧ e 1 = .str l ∧ e 5 = .i i ∧ i ≤ s.length ∧ (s.take i).any (fun c => decide (c ∈ l)) = false) (fun i => s.length - i) 0 ?_ ?_
 ·refine ⟨rfl, ?_, ?_, ?_, by omega, rfl⟩
  all_goals first | (simp (disch := first | assumption | omega) only [go_sem]; done) | (simp (disch := first | assumption | omega) only [go_sem]; rfl)
 ·rintro i e H' ⟨rfl, g0, g1, g5, i1, hn⟩
  by_cases hi : i < s.length
  ·have hix := ix_at hi
   have hat := any_take (p := fun c => decide (c ∈ l)) hi
   have hay := any_yes (p := fun c => decide (c ∈ l)) hi
   generalize s[i] = x at *
   repeat' first|simp (disch:=first|omega|assumption|decide) only[go_sem,hm,hz,ht,hr_,g0,g1,g5]|(apply ifP_in<;>intro)
   refine rL_loop (σ := Nat) (fun k e M => M = H' ∧ e 0 = .str s ∧ e 1 = .str l ∧ e 5 = .i i ∧ e 6 = .i k ∧ k ≤ l.length ∧ x ∉ l.take k) (fun k => l.length - k) 0 ?_ ?_
   ·refine ⟨rfl, ?_, ?_, ?_, ?_, by omega, by simp⟩
    all_goals first | (simp (disch := first | assumption | omega) only [go_sem, g0, g1, g5]; done) | (simp (disch := first | assumption | omega) only [go_sem, g0, g1, g5]; rfl)
   ·clear g0 g1 g5
    rintro k e M ⟨rfl, g0, g1, g5, g6, k1, hxn⟩
    by_cases hk : k < l.length
    ·have hkx := ix_at hk
     have htk := bytes_snoc hk
     have hmem : l[k] ∈ l := List.getElem_mem hk
     generalize l[k] = y at *
     by_cases hxy : x = y
     ·subst hxy
      rw [hay (decide_eq_true hmem)]
      repeat' first|simp (disch:=first|omega|assumption|decide) only[go_sem,hm,hz,ht,hr_,g0,g1,g5,g6,hix,hkx]|(apply ifP_in<;>intro)
     ·have hcn : ¬ x.toNat = y.toNat := fun h => hxy (UInt8.toNat.inj h)
      have hci : ¬ ((x.toNat : Int) = (y.toNat : Int)) := by omega
      repeat' first|simp (disch:=first|omega|assumption|decide) only[go_sem,hm,hz,ht,hr_,g0,g1,g5,g6,hix,hkx]|(apply ifP_in<;>intro)
      refine ⟨k + 1, ⟨rfl, by omega, ?_⟩, by omega⟩
      rw [htk, List.mem_append, not_or]
      exact ⟨hxn, by simpa using hxy⟩
    ·have : k = l.length := by omega
     subst this
     rw [List.take_length] at hxn
     repeat' first|simp (disch:=first|omega|assumption|decide) only[go_sem,hm,hz,ht,hr_,g0,g1,g5,g6]|(apply ifP_in<;>intro)
     refine ⟨i + 1, ⟨rfl, by omega, ?_⟩, by omega⟩
     rw [hat, hn]
     exact decide_eq_false hxn
  ·have : i = s.length := by omega
   subst this
   rw [List.take_length] at hn
   rw [hn]
   repeat' first|simp (disch:=first|omega|assumption|decide) only[go_sem,hm,hz,ht,hr_,g0,g1,g5]|(apply ifP_in<;>intro)
theorem bad_r : WF Tryz.prog cfg 48 [] H (fun r H' => r = .str BAD ∧ H' = H) := by
 have hm : ∀ d, cfg.muF 48 d = (false) := fun _ => rfl
 have hz : ∀ d, cfg.fzF 48 d = (false) := fun _ => rfl
 have ht : ∀ d, cfg.tkF 48 d = (false) := fun _ => rfl
 have hr_ : ∀ g, cfg.raw g = (g == 152 || g == 118) := fun _ => rfl
 refine rF_fn rfl rfl Tryz.func48 rfl ?_
 repeat' first|simp (disch:=first|omega|assumption|decide) only[go_sem,hm,hz,ht,hr_]|(apply ifP_in<;>intro)
 all_goals rfl
theorem bad_e {Q : K (AV → Heap → Prop)} : @rF Tryz.prog cfg 48 [] H Q = Q.v (.str BAD) H := rF_eq bad_r
theorem among_e (s : List UInt8) (hs : s.length ≤ 1000000) {Q : K (AV → Heap → Prop)} : @rF Tryz.prog cfg 47 [.str s, .str BAD] H Q = Q.v (.b (bad s)) H := rF_eq (among_r s BAD hs (by decide))
end Hs
end Go.Proofs
