/- The plain law of hosts: what is read is printed, and read as the same. -/
import Derived.Test.YtiboedaicjkfnaaGreatDoorHoAllcx0
import Derived.Test.YtiboedaicjkfnaaGreatDoorIdStay
import Derived.Test.YtiboedaicjkfnaaGreatDoorLvAll18
set_option linter.unusedVariables false
set_option linter.unusedSimpArgs false
namespace Go.Proofs
open Go.Lv
namespace Hs
theorem asc_ints (s : List UInt8) : Utf.asc (Puny.ints s) = s := by
 induction s with
 | nil => rfl
 | cons c r ih =>
  show UInt8.ofNat ((c.toNat : Int)).toNat :: Utf.asc (Puny.ints r) = _
  rw [ih]; simp
theorem plain_ints {s : List UInt8} (h : ∀ c ∈ s, c.toNat < 128) : Id.plain (Puny.ints s) = true := by
 refine List.all_eq_true.2 fun c hc => ?_
 obtain ⟨x, hx, rfl⟩ := List.mem_map.1 hc
 have := h x hx
 simp [Id.high]; omega
def pr (k : Int) (n : List UInt8) (v : Int) (l : List Int) : List UInt8 := if k = 1 ∨ k = 4 then n else if k = 2 then Ho.pr4 v else if k = 3 then [91] ++ Ho.pr6 l ++ [93] else []
end Hs
end Go.Proofs
/- Walks: eight pieces as a text, the program's side. -/
set_option linter.unusedVariables false
set_option linter.unusedSimpArgs false
namespace Go.Proofs
open Go.Lv
namespace Hs
open Pu Ut Utf In
variable {H : Heap}
theorem zeros_w (l : List Int) (hl : l.length = 8) (hu : Ho.u16s l) : WF Tryz.prog cfg 24 [.agg (l.map uA)] H (fun r H' => r = .tup [.i (Ho.zr l).1, .i (Ho.zr l).2] ∧ H <+: H') := by
 have hm : ∀ d, cfg.muF 24 d = (false) := fun _ => rfl
 have hz : ∀ d, cfg.fzF 24 d = (false) := fun _ => rfl
 have ht : ∀ d, cfg.tkF 24 d = (false) := fun _ => rfl
 have hr_ : ∀ g, cfg.raw g = (g == 152 || g == 118) := fun _ => rfl
 refine rF_fn rfl rfl Tryz.func24 rfl ?_
 have ho := one_u (vs := l)
 have hpl : ∀ {x : Option AV}, plainD (l.map uA) x = x := fun {x} => by
  unfold plainD
  rw [if_pos (plainRow_one ho)]
 have hml : (l.map uA).length = 8 := by simp [hl]
 have htk : (l.map uA).take 8 = l.map uA := List.take_of_length_le (by omega)
 repeat' first|simp (disch:=first|omega|assumption|decide) only[go_sem,hm,hz,ht,hr_,ho,hpl,hml,htk,Nat.le_refl,if_true,wdl,bind_some_,map_some_,oneD_fold]|(apply ifP_in<;>intro)
 refine rL_loop (σ := Nat) (fun i e K => K = H ++ [l.map uA] ∧ e 9 = .agg (l.map uA) ∧ e 10 = .i i ∧ e 4 = .i (Ho.zf (l.take i)).1 ∧ e 5 = .i (Ho.zf (l.take i)).2.1 ∧ e 6 = .i (Ho.zf (l.take i)).2.2.1 ∧ i ≤ 8) (fun i => 8 - i) 0 ?_ ?_
 ·refine ⟨rfl, ?_, ?_, ?_, ?_, ?_, by omega⟩
  all_goals first | (simp (disch := first | assumption | omega) only [go_sem]; done) | (simp (disch := first | assumption | omega) only [go_sem]; rfl)
 ·rintro i e K ⟨rfl, g9, g10, g4, g5, g6, i1⟩
  by_cases hi : i < 8
  ·have hil : i < l.length := by omega
   have hst := Ho.zf_take hil
   obtain ⟨k1, k2, k3, k4, k5, k6, k7, k8⟩ := Ho.zf_inv l i (by omega)
   have hlen : (l.take i).length = i := by simp; omega
   rw [hlen] at k1 k3 k7
   have hx := hu _ (List.getElem_mem hil)
   have hpi : ∀ {s : Option Nat}, partD (some false) s (l.map uA) i = some (uA l[i]) := fun {s} => by rw [partD_map, xgE hil]; rfl
   generalize l[i] = x at *
   generalize Ho.zf (l.take i) = s at *
   obtain ⟨a, m, n, q⟩ := s
   simp only at g4 g5 g6 k1 k2 k3 k5 k6 k7
   subst k1
   have hn1 : (n : Int) + 1 < 100 := by omega
   by_cases hx0 : x = 0
   ·have hst2 : Ho.zstep x (a, m, n, (i : Int)) = if m < n + 1 then ((i : Int) + 1 - (n + 1), n + 1, n + 1, (i : Int) + 1) else (a, m, n + 1, (i : Int) + 1) := by unfold Ho.zstep; simp only [hx0, if_true]
    rw [hst2] at hst
    subst hx0
    repeat' first|simp (disch:=first|omega|assumption|decide) only[go_sem,hm,hz,ht,hr_,g9,g10,g4,g5,g6,hpi,wdl,bind_some_,map_some_,oneD_fold]|(apply ifP_in<;>intro)
    ·rw [if_pos (by omega)] at hst
     exact ⟨i + 1, ⟨rfl, by rw [hst], by rw [hst], by rw [hst], by omega⟩, by omega⟩
    ·rw [if_neg (by omega)] at hst
     exact ⟨i + 1, ⟨rfl, by rw [hst], by rw [hst], by rw [hst], by omega⟩, by omega⟩
   ·have hst2 : Ho.zstep x (a, m, n, (i : Int)) = (a, m, 0, (i : Int) + 1) := by unfold Ho.zstep; simp only [hx0, if_false]; rw [if_neg (by omega)]
    rw [hst2] at hst
    repeat' first|simp (disch:=first|omega|assumption|decide) only[go_sem,hm,hz,ht,hr_,g9,g10,g4,g5,g6,hpi,wdl,bind_some_,map_some_,oneD_fold]|(apply ifP_in<;>intro)
    exact ⟨i + 1, ⟨rfl, by rw [hst], by rw [hst], by rw [hst], by omega⟩, by omega⟩
  ·obtain rfl : i = 8 := by omega
   have h8 : l.take 8 = l := List.take_of_length_le (by omega)
   rw [h8] at g4 g5 g6
   repeat' first|simp (disch:=first|omega|assumption|decide) only[go_sem,hm,hz,ht,hr_,g9,g10,g4,g5,g6,wdl,bind_some_,map_some_,oneD_fold]|(apply ifP_in<;>intro)
   exact ⟨by rw [Ho.zr_zf], List.prefix_append _ _⟩
theorem text_w (l : List Int) (hu : Ho.u16s l) (j off len : Nat) (hj : H[j]? = some (l.map uA)) (ho : off + len ≤ l.length) (hl8 : l.length ≤ 8) : WF Tryz.prog cfg 25 [.mr j off len 1 false] H (fun r H' => r = .str (Ho.tx6 ((l.drop off).take len)) ∧ H <+: H') := by
 have hm : ∀ d, cfg.muF 25 d = (false) := fun _ => rfl
 have hz : ∀ d, cfg.fzF 25 d = (false) := fun _ => rfl
 have ht : ∀ d, cfg.tkF 25 d = (false) := fun _ => rfl
 have hr_ : ∀ g, cfg.raw g = (g == 152 || g == 118) := fun _ => rfl
 refine rF_fn rfl rfl Tryz.func25 rfl ?_
 repeat' first|simp (disch:=first|omega|assumption|decide) only[go_sem,hm,hz,ht,hr_,wdl,bind_some_,map_some_,oneD_fold]|(apply ifP_in<;>intro)
 refine rL_loop (σ := Nat) (fun i e K => H <+: K ∧ e 6 = .mr j off len 1 false ∧ e 7 = .i len ∧ e 8 = .i i ∧ e 3 = .sl ((((l.drop off).take i).map Ho.hx).map AV.str) ∧ i ≤ len) (fun i => len - i) 0 ?_ ?_
 ·refine ⟨List.prefix_refl _, ?_, ?_, ?_, ?_, by omega⟩
  all_goals first | (simp (disch := first | assumption | omega) only [go_sem]; done) | (simp (disch := first | assumption | omega) only [go_sem]; rfl)
 ·rintro i e K ⟨hK, g6, g7, g8, g3, i1⟩
  have hjK : K[j]? = some (l.map uA) := by
   obtain ⟨T, rfl⟩ := hK
   rw [xgL (xgI.1 hj).1]; exact hj
  by_cases hi : i < len
  ·have hoi : off + i < l.length := by omega
   have hpi : ∀ {s : Option Nat}, partD (some false) s (l.map uA) (off + i) = some (uA l[off + i]) := fun {s} => by rw [partD_map, xgE hoi]; rfl
   have hv := hu _ (List.getElem_mem hoi)
   have hts : (l.drop off).take (i + 1) = (l.drop off).take i ++ [l[off + i]] := by
    rw [List.take_succ_eq_append_getElem (by simp; omega)]
    simp
   generalize l[off + i] = v at *
   repeat' first|simp (disch:=first|omega|assumption|decide) only[go_sem,hm,hz,ht,hr_,g6,g7,g8,g3,hjK,hpi,plainD_map,wdl,bind_some_,map_some_,oneD_fold]|(apply ifP_in<;>intro)
   refine rF_use (bits_e v hv.1 hv.2) ?_
   rintro _ K1 ⟨rfl, T1, rfl⟩
   have hln : (((l.drop off).take i).map Ho.hx).length ≤ 8 := by simp; omega
   repeat' first|simp (disch:=first|omega|assumption|decide) only[go_sem,hm,hz,ht,hr_,g6,g7,g8,g3,wdl,bind_some_,map_some_,oneD_fold]|(apply ifP_in<;>intro)
   exact ⟨i + 1, ⟨hK.trans (List.prefix_append _ _), rfl, by rw [hts]; simp, by omega⟩, by omega⟩
  ·obtain rfl : i = len := by omega
   have hjl := Ho.tx6_len ((l.drop off).take i)
   have hll : ((l.drop off).take i).length ≤ 8 := by simp; omega
   have hj := @join_e K (((l.drop off).take i).map Ho.hx) 58 (by show (Ho.tx6 _).length ≤ _; omega) (by simp; omega)
   repeat' first|simp (disch:=first|omega|assumption|decide) only[go_sem,hm,hz,ht,hr_,g6,g7,g8,g3,hj,wdl,bind_some_,map_some_,oneD_fold]|(apply ifP_in<;>intro)
   exact ⟨rfl, hK⟩
theorem text0_w : WF Tryz.prog cfg 25 [.sl []] H (fun r H' => r = .str [] ∧ H <+: H') := by
 have hm : ∀ d, cfg.muF 25 d = (false) := fun _ => rfl
 have hz : ∀ d, cfg.fzF 25 d = (false) := fun _ => rfl
 have ht : ∀ d, cfg.tkF 25 d = (false) := fun _ => rfl
 have hr_ : ∀ g, cfg.raw g = (g == 152 || g == 118) := fun _ => rfl
 refine rF_fn rfl rfl Tryz.func25 rfl ?_
 repeat' first|simp (disch:=first|omega|assumption|decide) only[go_sem,hm,hz,ht,hr_,wdl,bind_some_,map_some_,oneD_fold]|(apply ifP_in<;>intro)
 refine rL_loop (σ := Unit) (fun i e H9 => H9 = H ∧ e 7 = .i 0 ∧ e 8 = .i 0 ∧ e 3 = .sl []) (fun i => 0) () ?_ ?_
 ·refine ⟨rfl, ?_, ?_, ?_⟩
  all_goals first | (simp (disch := first | assumption | omega) only [go_sem]; done) | (simp (disch := first | assumption | omega) only [go_sem]; rfl)
 ·rintro i e H9 ⟨rfl, g7, g8, g3⟩
  have hj : ∀ {Q : K (AV → Heap → Prop)}, @rF Tryz.prog cfg 23 [.sl [], .str [58]] H9 Q = Q.v (.str []) H9 := fun {Q} => @join_e H9 [] 58 (by simp [Sp.join]) (by simp) Q
  repeat' first|simp (disch:=first|omega|assumption|decide) only[go_sem,hm,hz,ht,hr_,g7,g8,g3,hj,wdl,bind_some_,map_some_,oneD_fold]|(apply ifP_in<;>intro)
  exact List.prefix_refl _
section
variable {P : Program} {t e : TypeId}
theorem sliceP [h1 : UndIs P t (.array 8 e)] [h2 : SizeIs P e 1] [h3 : AggIs P e false] [h4 : SizeIs P t 8] {l : List Int} (hl : l.length = 8) {K : Heap} (hj : K[H.length]? = some (l.map uA)) {lo hi : Option AV} :
  sliceM P K t (.ptr H.length 0) lo hi none = (bound 8 hi 8).bind fun h => (bound h lo 0).bind fun o => some (if o < 8 then .mr H.length o (h - o) 1 false else .sl [], K) := by
 unfold sliceM
 simp only [h1.h, h2.h, h3.h, hj, Option.bind_some]
 rw [if_pos ⟨by omega, plainRow_one one_u, by simp [hl], by omega, h4.h⟩]
 simp only [Nat.mul_one, Nat.zero_add]
theorem sliceP1 [h1 : UndIs P t (.array 8 e)] [h2 : SizeIs P e 1] [h3 : AggIs P e false] [h4 : SizeIs P t 8] {l : List Int} (hl : l.length = 8) {K : Heap} (hj : K[H.length]? = some (l.map uA)) :
  sliceM P K t (.ptr H.length 0) none none none = some (.mr H.length 0 8 1 false, K) := by
 rw [sliceP hl hj]; rfl
theorem sliceP2 [h1 : UndIs P t (.array 8 e)] [h2 : SizeIs P e 1] [h3 : AggIs P e false] [h4 : SizeIs P t 8] {l : List Int} (hl : l.length = 8) {K : Heap} (hj : K[H.length]? = some (l.map uA)) {a : Int} (h0 : 0 ≤ a) (h8 : a ≤ 8) :
  sliceM P K t (.ptr H.length 0) none (some (.v (.int .i64 a))) none = some (.mr H.length 0 a.toNat 1 false, K) := by
 rw [sliceP hl hj]
 have b2 : bound 8 (some (.v (.int .i64 a))) 8 = some a.toNat := by
  unfold bound
  simp only
  rw [if_pos ⟨by omega, by omega⟩]
 rw [b2, Option.bind_some]
 have b1 : bound a.toNat none 0 = some 0 := rfl
 rw [b1, Option.bind_some, if_pos (by omega), Nat.sub_zero]
theorem sliceP3 [h1 : UndIs P t (.array 8 e)] [h2 : SizeIs P e 1] [h3 : AggIs P e false] [h4 : SizeIs P t 8] {l : List Int} (hl : l.length = 8) {K : Heap} (hj : K[H.length]? = some (l.map uA)) {a : Int} (h0 : 0 ≤ a) (h8 : a ≤ 8) :
  sliceM P K t (.ptr H.length 0) (some (.v (.int .i64 a))) none none = some (if a.toNat < 8 then .mr H.length a.toNat (8 - a.toNat) 1 false else .sl [], K) := by
 rw [sliceP hl hj]
 have b1 : bound 8 none 8 = some 8 := rfl
 rw [b1, Option.bind_some]
 have b2 : bound 8 (some (.v (.int .i64 a))) 0 = some a.toNat := by
  unfold bound
  simp only
  rw [if_pos ⟨by omega, by omega⟩]
 rw [b2, Option.bind_some]
end
theorem print6_w (l : List Int) (hl : l.length = 8) (hu : Ho.u16s l) : WF Tryz.prog cfg 10 [.agg (l.map uA)] H (fun r H' => r = .str (Ho.pr6 l) ∧ H <+: H') := by
 have hm : ∀ d, cfg.muF 10 d = (d == 12 || d == 15 || d == 21) := fun _ => rfl
 have hz : ∀ d, cfg.fzF 10 d = (false) := fun _ => rfl
 have ht : ∀ d, cfg.tkF 10 d = (false) := fun _ => rfl
 have hr_ : ∀ g, cfg.raw g = (g == 152 || g == 118) := fun _ => rfl
 refine rF_fn rfl rfl Tryz.func10 rfl ?_
 have ho := one_u (vs := l)
 have hml : (l.map uA).length = 8 := by simp [hl]
 have htk : (l.map uA).take 8 = l.map uA := List.take_of_length_le (by omega)
 obtain ⟨z1, z2, z3, z4⟩ := Ho.zr_ok l
 have hp : Ho.pr6 l = if (Ho.zr l).2 < 2 then Ho.tx6 l else Ho.tx6 (l.take (Ho.zr l).1.toNat) ++ Ho.DC ++ Ho.tx6 (l.drop ((Ho.zr l).1 + (Ho.zr l).2).toNat) := rfl
 rw [hp]
 repeat' first|simp (disch:=first|omega|assumption|decide) only[go_sem,hm,hz,ht,hr_,ho,plainD_map,hml,htk,Nat.le_refl,if_true,wdl,bind_some_,map_some_,oneD_fold]|(apply ifP_in<;>intro)
 refine rF_use (zeros_w l hl hu) ?_
 rintro _ K ⟨rfl, T, rfl⟩
 generalize (Ho.zr l).1 = a at *
 generalize (Ho.zr l).2 = n at *
 have hj : (H ++ [l.map uA] ++ T)[H.length]? = some (l.map uA) := by simp
 have s1 := fun {e : TypeId} [h1 : UndIs Tryz.prog 24 (.array 8 e)] [h2 : SizeIs Tryz.prog e 1] [h3 : AggIs Tryz.prog e false] => sliceP1 (P := Tryz.prog) (t := 24) (e := e) hl hj
 by_cases hn : n < 2
 ·rw [if_pos hn]
  repeat' first|simp (disch:=first|omega|assumption|decide) only[go_sem,hm,hz,ht,hr_,s1,wdl,bind_some_,map_some_,oneD_fold]|(apply ifP_in<;>intro)
  refine rF_use (text_w l hu H.length 0 8 hj (by omega) (by omega)) ?_
  rintro _ H2 ⟨rfl, T2, rfl⟩
  repeat' first|simp (disch:=first|omega|assumption|decide) only[go_sem,hm,hz,ht,hr_,wdl,bind_some_,map_some_,oneD_fold]|(apply ifP_in<;>intro)
  rw [List.take_of_length_le (show l.length ≤ 8 by omega)]
  exact ⟨rfl, by simp only [List.append_assoc]; exact List.prefix_append _ _⟩
 ·rw [if_neg hn]
  have s2 := fun {e : TypeId} [h1 : UndIs Tryz.prog 24 (.array 8 e)] [h2 : SizeIs Tryz.prog e 1] [h3 : AggIs Tryz.prog e false] => sliceP2 (P := Tryz.prog) (t := 24) (e := e) hl hj (a := a) z1 (by omega)
  repeat' first|simp (disch:=first|omega|assumption|decide) only[go_sem,hm,hz,ht,hr_,s2,hj,plainD_map,hml,htk,Nat.le_refl,if_true,wdl,bind_some_,map_some_,oneD_fold]|(apply ifP_in<;>intro)
  refine rF_use (text_w l hu H.length 0 a.toNat hj (by omega) (by omega)) ?_
  rintro _ H2 ⟨rfl, T2, rfl⟩
  have hj2 : (H ++ [l.map uA] ++ T ++ T2)[H.length]? = some (l.map uA) := by simp
  have s3 := fun {e : TypeId} [h1 : UndIs Tryz.prog 24 (.array 8 e)] [h2 : SizeIs Tryz.prog e 1] [h3 : AggIs Tryz.prog e false] => sliceP3 (P := Tryz.prog) (t := 24) (e := e) hl hj2 (a := a + n) (by omega) (by omega)
  have hA : (Ho.tx6 (l.take a.toNat)).length ≤ 40 := by
   have := Ho.tx6_len (l.take a.toNat)
   rw [List.length_take] at this; omega
  have hB : (Ho.tx6 (l.drop (a + n).toNat)).length ≤ 40 := by
   have := Ho.tx6_len (l.drop (a + n).toNat)
   rw [List.length_drop] at this; omega
  have hC : (Ho.tx6 (l.take a.toNat) ++ [58, 58]).length ≤ 42 := by simp; omega
  have hD : ([58, 58] : List UInt8).length = 2 := rfl
  have hN : ([] : List UInt8).length = 0 := rfl
  by_cases h8 : (a + n).toNat < 8
  ·rw [if_pos h8] at s3
   repeat' first|simp (disch:=first|omega|assumption|decide) only[go_sem,hm,hz,ht,hr_,s3,hj,hj2,plainD_map,hml,htk,Nat.le_refl,if_true,hD,wdl,bind_some_,map_some_,oneD_fold]|(apply ifP_in<;>intro)
   refine rF_use (text_w l hu H.length (a + n).toNat (8 - (a + n).toNat) hj2 (by omega) (by omega)) ?_
   rintro _ H3 ⟨rfl, T3, rfl⟩
   have htd : (l.drop (a + n).toNat).take (8 - (a + n).toNat) = l.drop (a + n).toNat := List.take_of_length_le (by simp; omega)
   rw [htd]
   have hj3 : (H ++ [l.map uA] ++ T ++ T2 ++ T3)[H.length]? = some (l.map uA) := by simp
   repeat' first|simp (disch:=first|omega|assumption|decide) only[go_sem,hm,hz,ht,hr_,hj3,plainD_map,hml,htk,Nat.le_refl,if_true,hD,List.length_nil,wdl,bind_some_,map_some_,oneD_fold]|(apply ifP_in<;>intro)
   exact ⟨rfl, by simp only [List.append_assoc]; exact List.prefix_append _ _⟩
  ·rw [if_neg h8] at s3
   repeat' first|simp (disch:=first|omega|assumption|decide) only[go_sem,hm,hz,ht,hr_,s3,hj,hj2,plainD_map,hml,htk,Nat.le_refl,if_true,hD,wdl,bind_some_,map_some_,oneD_fold]|(apply ifP_in<;>intro)
   refine rF_use text0_w ?_
   rintro _ H3 ⟨rfl, T3, rfl⟩
   have htd : l.drop (a + n).toNat = [] := List.drop_eq_nil_of_le (by omega)
   rw [htd]
   have hj3 : (H ++ [l.map uA] ++ T ++ T2 ++ T3)[H.length]? = some (l.map uA) := by simp
   repeat' first|simp (disch:=first|omega|assumption|decide) only[go_sem,hm,hz,ht,hr_,hj3,plainD_map,hml,htk,Nat.le_refl,if_true,hD,List.length_nil,wdl,bind_some_,map_some_,oneD_fold]|(apply ifP_in<;>intro)
   exact ⟨rfl, by simp only [List.append_assoc]; exact List.prefix_append _ _⟩
theorem print_w (k : Int) (n : List UInt8) (v : Int) (l : List Int) (hl : l.length = 8) (hu : Ho.u16s l) (h0 : 0 ≤ v) (h1 : v < 4294967296) : WF Tryz.prog cfg 13 [.agg (hcells k n v l)] H (fun r H' => r = .str (pr k n v l) ∧ H <+: H') := by
 have hm : ∀ d, cfg.muF 13 d = (false) := fun _ => rfl
 have hz : ∀ d, cfg.fzF 13 d = (false) := fun _ => rfl
 have ht : ∀ d, cfg.tkF 13 d = (false) := fun _ => rfl
 have hr_ : ∀ g, cfg.raw g = (g == 152 || g == 118) := fun _ => rfl
 refine rF_fn rfl rfl Tryz.func13 rfl ?_
 have hco := hcells_one (k := k) (n := n) (v := v) (l := l)
 have hml : (l.map uA).length = 8 := by simp [hl]
 have htk : (l.map uA).take 8 = l.map uA := List.take_of_length_le (by omega)
 have hcd : hcells k n v l = .i k :: .str n :: .v (.int .u32 v) :: l.map uA := rfl
 have hp : pr k n v l = if k = 1 ∨ k = 4 then n else if k = 2 then Ho.pr4 v else if k = 3 then [91] ++ Ho.pr6 l ++ [93] else [] := rfl
 rw [hp]
 rw [hcd] at hco ⊢
 have hpl : ∀ {x : Option AV}, plainD (.i k :: .str n :: .v (.int .u32 v) :: l.map uA) x = x := fun {x} => by
  unfold plainD
  rw [if_pos (plainRow_one hco)]
 have hd91 : ([91] : List UInt8).length = 1 := rfl
 have hd93 : ([93] : List UInt8).length = 1 := rfl
 have hpx : ∀ x : List AV, H <+: H ++ [x] := fun x => List.prefix_append _ _
 by_cases k1 : k = 1
 ·subst k1
  rw [if_pos (.inl rfl)]
  repeat' first|simp (disch:=first|omega|assumption|decide) only[go_sem,hm,hz,ht,hr_,hco,hpl,hml,htk,Nat.le_refl,if_true,wdl,bind_some_,map_some_,oneD_fold]|(apply ifP_in<;>intro)
  exact hpx _
 by_cases k4 : k = 4
 ·subst k4
  rw [if_pos (.inr rfl)]
  repeat' first|simp (disch:=first|omega|assumption|decide) only[go_sem,hm,hz,ht,hr_,hco,hpl,hml,htk,Nat.le_refl,if_true,wdl,bind_some_,map_some_,oneD_fold]|(apply ifP_in<;>intro)
  exact hpx _
 rw [if_neg (by rintro (h | h); exact k1 h; exact k4 h)]
 by_cases k2 : k = 2
 ·subst k2
  rw [if_pos rfl]
  repeat' first|simp (disch:=first|omega|assumption|decide) only[go_sem,hm,hz,ht,hr_,hco,hpl,hml,htk,Nat.le_refl,if_true,wdl,bind_some_,map_some_,oneD_fold]|(apply ifP_in<;>intro)
  refine rF_use (print4_w v h0 h1) ?_
  rintro _ H1 ⟨rfl, rfl⟩
  repeat' first|simp (disch:=first|omega|assumption|decide) only[go_sem,hm,hz,ht,hr_,wdl,bind_some_,map_some_,oneD_fold]|(apply ifP_in<;>intro)
  exact hpx _
 rw [if_neg k2]
 by_cases k3 : k = 3
 ·subst k3
  rw [if_pos rfl]
  have hl6 := Ho.pr6_len l
  have hcc : ([91] ++ Ho.pr6 l).length ≤ 90 := by simp; omega
  repeat' first|simp (disch:=first|omega|assumption|decide) only[go_sem,hm,hz,ht,hr_,hco,hpl,hml,htk,Nat.le_refl,if_true,wdl,bind_some_,map_some_,oneD_fold]|(apply ifP_in<;>intro)
  refine rF_use (print6_w l hl hu) ?_
  rintro _ H1 ⟨rfl, T, rfl⟩
  repeat' first|simp (disch:=first|omega|assumption|decide) only[go_sem,hm,hz,ht,hr_,hd91,hd93,wdl,bind_some_,map_some_,oneD_fold]|(apply ifP_in<;>intro)
  rw [List.append_assoc]
  exact List.prefix_append _ _
 ·rw [if_neg k3]
  repeat' first|simp (disch:=first|omega|assumption|decide) only[go_sem,hm,hz,ht,hr_,hco,hpl,hml,htk,Nat.le_refl,if_true,k1,k2,k3,k4,wdl,bind_some_,map_some_,oneD_fold]|(apply ifP_in<;>intro)
  exact hpx _
end Hs
end Go.Proofs
/- The plain law of hosts: there and back. -/
set_option linter.unusedVariables false
set_option linter.unusedSimpArgs false
namespace Go.Proofs
open Go.Lv
namespace Hs
theorem z8 : (Ho.zeros 8).length = 8 := rfl
end Hs
end Go.Proofs
/- Walks: may a host be. -/
set_option linter.unusedVariables false
set_option linter.unusedSimpArgs false
namespace Go.Proofs
open Go.Lv
namespace Hs
open Pu Ut Utf In
variable {H : Heap}
theorem guardH : Tryz.prog.eqGuardType Tryz.prog.depth 27 = false := by kernel_rfl
theorem stoodH : Tryz.prog.stoodInHeld 27 = false := by kernel_rfl
theorem eqArr_u : ∀ (l m : List Int), l.length = m.length → eqArr .u16 (l.map uA) (m.map uA) = some (decide (l = m)) := by
 intro l
 induction l with
 | nil => intro m h; cases m with
  | nil => rfl
  | cons _ _ => simp at h
 | cons a l ih =>
  intro m h
  cases m with
  | nil => simp at h
  | cons b m =>
   rw [List.map_cons, List.map_cons, eqArr, if_pos ⟨rfl, rfl⟩, ih m (by simpa using h)]
   simp only [Option.map_some, Option.some.injEq]
   rw [Bool.eq_iff_iff]
   simp
def eqH (k : Int) (n : List UInt8) (v : Int) (l : List Int) (k' : Int) (n' : List UInt8) (v' : Int) (l' : List Int) : Bool := decide (k = k' ∧ n = n' ∧ v = v' ∧ l = l')
theorem bin_hostP {P : Program} {t ti ts tu ta te : TypeId} {k v k' v' : Int} {n n' : List UInt8} {l l' : List Int} {f0 f1 f2 f3 : Field} (hg : P.eqGuardType P.depth t = false) (hsi : P.stoodInHeld t = false) (ht : P.underlying t = some (.struct #[f0, f1, f2, f3]))
  (n0 : f0.name = "_" ↔ False) (n1 : f1.name = "_" ↔ False) (n2 : f2.name = "_" ↔ False) (n3 : f3.name = "_" ↔ False) (t0 : f0.type = ti) (t1 : f1.type = ts) (t2 : f2.type = tu) (t3 : f3.type = ta) (o0 : f0.offset = 0) (o1 : f1.offset = 1) (o2 : f2.offset = 2) (o3 : f3.offset = 3)
  [u0 : UndIs P ti (.int .i64)] [u1 : UndIs P ts .string] [u2 : UndIs P tu (.int .u32)] [u3 : UndIs P ta (.array 8 te)] [u4 : UndIs P te (.int .u16)] [a3 : AggIs P ti false] [a9 : AggIs P ts false] [a22 : AggIs P tu false] [a24 : AggIs P ta true] [s24 : SizeIs P ta 8] [s16 : SizeIs P te 1]
  (hl : l.length = 8) (hl' : l'.length = 8) : bin P .eql t (.agg (hcells k n v l)) (.agg (hcells k' n' v' l')) = some (.b (eqH k n v l k' n' v' l')) := by
 show binAgg P .eql t _ _ = _
 unfold binAgg
 rw [if_pos hg, ht]
 simp only
 rw [if_pos hsi]
 have hc : ∀ k n v l, hcells k n v l = .i k :: .str n :: .v (.int .u32 v) :: l.map uA := fun _ _ _ _ => rfl
 have p0 : ∀ k n v l, partA P ti (hcells k n v l) 0 = some (.i k) := fun k n v l => by unfold partA; rw [a3.h]; rfl
 have p1 : ∀ k n v l, partA P ts (hcells k n v l) 1 = some (.str n) := fun k n v l => by unfold partA; rw [a9.h]; rfl
 have p2 : ∀ k n v l, partA P tu (hcells k n v l) 2 = some (.v (.int .u32 v)) := fun k n v l => by unfold partA; rw [a22.h]; rfl
 have p3 : ∀ k n v l, l.length = 8 → partA P ta (hcells k n v l) 3 = some (.agg (l.map uA)) := fun k n v l h => by
  unfold partA; rw [a24.h, s24.h]
  simp only
  rw [if_pos (by simp [hcells, h])]
  rw [hc]
  simp only [List.drop_succ_cons, List.drop_zero]
  rw [List.take_of_length_le (by simp [h])]
 have q0 : eqA2 P ti (.i k) (.i k') = some (k == k') := by unfold eqA2; rw [u0.h]; simp
 have q1 : eqA2 P ts (.str n) (.str n') = some (n == n') := by
  unfold eqA2; rw [u1.h]
  show some ((⟨⟨n⟩⟩ : ByteArray) == ⟨⟨n'⟩⟩) = _
  congr 1
  rw [Bool.eq_iff_iff, bytes_beq']
  simp
 have q2 : eqA2 P tu (.v (.int .u32 v)) (.v (.int .u32 v')) = some (v == v') := by unfold eqA2; rw [u2.h]; simp
 have q3 : eqA2 P ta (.agg (l.map uA)) (.agg (l'.map uA)) = some (decide (l = l')) := by
  unfold eqA2
  rw [u3.h]
  simp only
  rw [u4.h]
  simp only
  rw [if_pos ⟨s16.h, by simp [hl], by simp [hl']⟩, eqArr_u l l' (by omega)]
 simp only [eqFs, n0, n1, n2, n3, t0, t1, t2, t3, o0, o1, o2, o3, if_false, p0, p1, p2, p3 _ _ _ _ hl, p3 _ _ _ _ hl', q0, q1, q2, q3, Option.bind_some, Option.map_some]
 show some (AV.b _) = _
 congr 2
 unfold eqH
 rw [Bool.eq_iff_iff]
 simp
theorem bin_host {k v k' v' : Int} {n n' : List UInt8} {l l' : List Int} (hl : l.length = 8) (hl' : l'.length = 8) : bin Tryz.prog .eql 27 (.agg (hcells k n v l)) (.agg (hcells k' n' v' l')) = some (.b (eqH k n v l k' n' v' l')) :=
 bin_hostP (ti := 3) (ts := 9) (tu := 22) (ta := 24) (te := 23) guardH stoodH Tryz.underlying27 (by decide) (by decide) (by decide) (by decide) rfl rfl rfl rfl rfl rfl rfl rfl hl hl'
theorem hcells_inj {k v k' v' : Int} {n n' : List UInt8} {l l' : List Int} (h : hcells k n v l = hcells k' n' v' l') : k = k' ∧ n = n' ∧ v = v' ∧ l = l' := by
 have hc : ∀ k n v l, hcells k n v l = .i k :: .str n :: .v (.int .u32 v) :: l.map uA := fun _ _ _ _ => rfl
 rw [hc, hc] at h
 injection h with h1 h
 injection h with h2 h
 injection h with h3 h
 refine ⟨by injection h1 with h1; injection h1, ?_, by injection h3 with h3; injection h3, ?_⟩
 ·have : AV.str n = AV.str n' := h2
  injection this with h2
  injection h2 with h2
  injection h2 with h2
  injection h2
 ·have inj : ∀ (l m : List Int), l.map uA = m.map uA → l = m := by
   intro l
   induction l with
   | nil => intro m h; cases m with
    | nil => rfl
    | cons _ _ => cases h
   | cons a l ih =>
    intro m h
    cases m with
    | nil => cases h
    | cons b m =>
     rw [List.map_cons, List.map_cons] at h
     injection h with h1 h2
     have e : AV.v (.int .u16 a) = .v (.int .u16 b) := h1
     injection e with e; injection e with _ e
     rw [e, ih m h2]
  exact inj l l' h
noncomputable def mayB (k : Int) (n : List UInt8) (v : Int) (l : List Int) : Bool := @decide (prs (pr k n v l) (decide (k = 1) || decide (k = 2)) = (hcells k n v l, 0)) (Classical.propDecidable _)
theorem pr_len {k v : Int} {n : List UInt8} {l : List Int} (hl : l.length = 8) (hn : n.length ≤ 12000) : (pr k n v l).length ≤ 12000 := by
 unfold pr
 have h1 := Ho.pr4_len v
 have h2 := Ho.pr6_len l
 split
 ·exact hn
 split
 ·omega
 split
 ·simp; omega
 ·simp
theorem may_w (k : Int) (n : List UInt8) (v : Int) (l : List Int) (hl : l.length = 8) (hu : Ho.u16s l) (h0 : 0 ≤ v) (h1 : v < 4294967296) (hn : n.length ≤ 12000) : WF Tryz.prog cfg 15 [.agg (hcells k n v l)] H (fun r H' => r = .b (mayB k n v l) ∧ H <+: H') := by
 have hm : ∀ d, cfg.muF 15 d = (false) := fun _ => rfl
 have hz : ∀ d, cfg.fzF 15 d = (false) := fun _ => rfl
 have ht : ∀ d, cfg.tkF 15 d = (false) := fun _ => rfl
 have hr_ : ∀ g, cfg.raw g = (g == 152 || g == 118) := fun _ => rfl
 refine rF_fn rfl rfl Tryz.func15 rfl ?_
 have hco := hcells_one (k := k) (n := n) (v := v) (l := l)
 have hclen := hcells_len (k := k) (n := n) (v := v) hl
 have hcd : hcells k n v l = .i k :: .str n :: .v (.int .u32 v) :: l.map uA := rfl
 have hg0 : ∀ {s : Option Nat}, partD (some false) s (hcells k n v l) 0 = some (.i k) := fun {s} => rfl
 have hpl : ∀ {x : Option AV}, plainD (hcells k n v l) x = x := fun {x} => by
  unfold plainD
  rw [if_pos (plainRow_one hco)]
 have hpn := pr_len (k := k) (v := v) hl hn
 have hprt := @print_w
 obtain ⟨k', n', v', l', hl', hf⟩ := prs_form (pr k n v l) (decide (k = 1) || decide (k = 2))
 have hbin := bin_host (k := k') (n := n') (v := v') (k' := k) (n' := n) (v' := v) hl' hl
 have hc1 := hcells_len (k := k') (n := n') (v := v') hl'
 have ho1 := hcells_one (k := k') (n := n') (v := v') (l := l')
 have hmay : mayB k n v l = (decide ((prs (pr k n v l) (decide (k = 1) || decide (k = 2))).2 = 0) && eqH k' n' v' l' k n v l) := by
  unfold mayB eqH
  rw [Bool.eq_iff_iff, Bool.and_eq_true, @decide_eq_true_iff _ (Classical.propDecidable _), decide_eq_true_iff, decide_eq_true_iff]
  constructor
  ·intro h
   rw [h] at hf ⊢
   exact ⟨rfl, hcells_inj hf.symm⟩
  ·rintro ⟨e1, rfl, rfl, rfl, rfl⟩
   exact Prod.ext hf e1
 rw [hmay]
 have hpw := fun {H : Heap} => print_w (H := H) k n v l hl hu h0 h1
 have hrw := fun {H : Heap} => parse_w (H := H) (pr k n v l) (decide (k = 1) || decide (k = 2)) (by omega)
 generalize hcc : hcells k n v l = cs at *
 have htk11 : cs.take 11 = cs := List.take_of_length_le (by omega)
 repeat' first|simp (disch:=first|omega|assumption|decide) only[go_sem,hm,hz,ht,hr_,hco,hpl,hclen,Nat.le_refl,if_true,htk11,wdl,bind_some_,map_some_,oneD_fold]|(apply ifP_in<;>intro)
 refine rF_use hpw ?_
 rintro _ H1 ⟨rfl, T, rfl⟩
 have ga : (H ++ [cs] ++ T)[H.length]? = some cs := by simp
 generalize hcc1 : hcells k' n' v' l' = c1 at *
 generalize hEr : (prs (pr k n v l) (decide (k = 1) || decide (k = 2))).2 = er at *
 rw [hf] at hrw
 have z0l := z0l
 have z0o := z0o
 have htk1 : c1.take 11 = c1 := List.take_of_length_le (by omega)
 have hpl1 : ∀ {x : Option AV}, plainD c1 x = x := fun {x} => by
  unfold plainD
  rw [if_pos (plainRow_one ho1)]
 by_cases k1 : k = 1
 ·have hb : (decide (k = 1) || decide (k = 2)) = true := by simp [k1]
  rw [hb] at hrw
  have kT : (k = 1) = True := eq_true k1
  have kT2 : decide (k = 1) = true := decide_eq_true k1
  repeat' first|simp (disch:=first|omega|assumption|decide) only[go_sem,hm,hz,ht,hr_,hco,hpl,hclen,Nat.le_refl,if_true,htk11,ga,hg0,kT,kT2,wdl,bind_some_,map_some_,oneD_fold]|(apply ifP_in<;>intro)
  refine rF_use hrw ?_
  rintro _ H2 ⟨rfl, T2, rfl⟩
  have gb : (H ++ [cs] ++ T ++ T2 ++ [c1])[H.length]? = some cs := by simp
  have gc : (H ++ [cs] ++ T ++ T2)[H.length]? = some cs := by simp
  have gd : (H ++ [cs] ++ T ++ T2 ++ [hz0])[H.length]? = some cs := by simp
  by_cases he : er = 0
  ·subst he
   rw [decide_eq_true rfl, Bool.true_and]
   repeat' first|simp (disch:=first|omega|assumption|decide) only[go_sem,hm,hz,ht,hr_,ZH,storeH1,hpl,hpl1,hclen,hc1,htk1,Nat.le_refl,if_true,htk11,gb,gc,gd,ga,hg0,hbin,wdl,bind_some_,map_some_,oneD_fold]|(apply ifP_in<;>intro)
   simp only [List.append_assoc]
   exact List.prefix_append _ _
  ·rw [decide_eq_false he, Bool.false_and]
   repeat' first|simp (disch:=first|omega|assumption|decide) only[go_sem,hm,hz,ht,hr_,ZH,storeH1,hpl,hpl1,hclen,hc1,htk1,Nat.le_refl,if_true,htk11,gb,gc,gd,ga,hg0,wdl,bind_some_,map_some_,oneD_fold]|(apply ifP_in<;>intro)
   simp only [List.append_assoc]
   exact List.prefix_append _ _
 ·have hb : (decide (k = 1) || decide (k = 2)) = decide (k = 2) := by simp [k1]
  rw [hb] at hrw
  repeat' first|simp (disch:=first|omega|assumption|decide) only[go_sem,hm,hz,ht,hr_,hco,hpl,hclen,Nat.le_refl,if_true,htk11,ga,hg0,k1,wdl,bind_some_,map_some_,oneD_fold]|(apply ifP_in<;>intro)
  refine rF_use hrw ?_
  rintro _ H2 ⟨rfl, T2, rfl⟩
  have gb : (H ++ [cs] ++ T ++ T2 ++ [c1])[H.length]? = some cs := by simp
  have gc : (H ++ [cs] ++ T ++ T2)[H.length]? = some cs := by simp
  have gd : (H ++ [cs] ++ T ++ T2 ++ [hz0])[H.length]? = some cs := by simp
  by_cases he : er = 0
  ·subst he
   rw [decide_eq_true rfl, Bool.true_and]
   repeat' first|simp (disch:=first|omega|assumption|decide) only[go_sem,hm,hz,ht,hr_,ZH,storeH1,hpl,hpl1,hclen,hc1,htk1,Nat.le_refl,if_true,htk11,gb,gc,gd,ga,hg0,hbin,wdl,bind_some_,map_some_,oneD_fold]|(apply ifP_in<;>intro)
   simp only [List.append_assoc]
   exact List.prefix_append _ _
  ·rw [decide_eq_false he, Bool.false_and]
   repeat' first|simp (disch:=first|omega|assumption|decide) only[go_sem,hm,hz,ht,hr_,ZH,storeH1,hpl,hpl1,hclen,hc1,htk1,Nat.le_refl,if_true,htk11,gb,gc,gd,ga,hg0,wdl,bind_some_,map_some_,oneD_fold]|(apply ifP_in<;>intro)
   simp only [List.append_assoc]
   exact List.prefix_append _ _
end Hs
end Go.Proofs
/- Walks: machines as texts, the document's side. -/
set_option linter.unusedVariables false
set_option linter.unusedSimpArgs false
namespace Go.Proofs
open Go.Lv
namespace Hs
open Pu Ut Utf In
variable {H : Heap}
theorem l1 {c : UInt8} : ([c] : List UInt8).length = 1 := rfl
theorem l2 {c d : UInt8} : ([c, d] : List UInt8).length = 2 := rfl
end Hs
end Go.Proofs
/- Walks: eight pieces as a text, the document's side. -/
set_option linter.unusedVariables false
set_option linter.unusedSimpArgs false
namespace Go.Proofs
open Go.Lv
namespace Hs
open Pu Ut Utf In
variable {H : Heap}
theorem hd0 {q : Int} (h0 : 0 ≤ q) (h1 : q < 16) : ((Ho.hd q).toNat : Int) = 48 ↔ q = 0 := by
 obtain rfl | rfl | rfl | rfl | rfl | rfl | rfl | rfl | rfl | rfl | rfl | rfl | rfl | rfl | rfl | rfl : q = 0 ∨ q = 1 ∨ q = 2 ∨ q = 3 ∨ q = 4 ∨ q = 5 ∨ q = 6 ∨ q = 7 ∨ q = 8 ∨ q = 9 ∨ q = 10 ∨ q = 11 ∨ q = 12 ∨ q = 13 ∨ q = 14 ∨ q = 15 := by omega
 all_goals decide
def s4 (v : Int) : List UInt8 := [Ho.hd (v / 4096), Ho.hd (v / 256 % 16), Ho.hd (v / 16 % 16), Ho.hd (v % 16)]
end Hs
end Go.Proofs
set_option linter.unusedVariables false
set_option linter.unusedSimpArgs false
namespace Ho
open Go
def runZ : List Int → Nat
 | [] => 0
 | x :: r => if x = 0 then runZ r + 1 else 0
def rstep (l : List Int) (s : Nat × Nat) (i : Nat) : Nat × Nat := if s.2 < runZ (l.drop i) then (i, runZ (l.drop i)) else s
def rs (l : List Int) (i : Nat) : Nat × Nat := (List.range i).foldl (rstep l) (8, 1)
end Ho
/- Walks: eight pieces as a text, the document's side, the whole. -/
set_option linter.unusedVariables false
set_option linter.unusedSimpArgs false
namespace Go.Proofs
open Go.Lv
namespace Hs
open Pu Ut Utf In
variable {H : Heap}
end Hs
end Go.Proofs
/- Walks: hosts as texts, may a host be: the document's side. -/
set_option linter.unusedVariables false
set_option linter.unusedSimpArgs false
namespace Go.Proofs
open Go.Lv
namespace Hs
open Pu Ut Utf In
variable {H : Heap}
end Hs
end Go.Proofs
/- Walks: the law of hosts as texts. -/
set_option linter.unusedVariables false
set_option linter.unusedSimpArgs false
namespace Go.Proofs
open Go.Lv
namespace Hs
open Pu Ut Utf In
variable {H : Heap}
theorem few_w (k : Int) (n : List UInt8) (v : Int) (l : List Int) (hn : n.length ≤ 140737488355328) : WF Tryz.prog cfg 12 [.agg (hcells k n v l)] H (fun r H' => r = .b (decide ((n.length : Int) ≤ 5000)) ∧ H <+: H') := by
 have hm : ∀ d, cfg.muF 12 d = (false) := fun _ => rfl
 have hz : ∀ d, cfg.fzF 12 d = (false) := fun _ => rfl
 have ht : ∀ d, cfg.tkF 12 d = (false) := fun _ => rfl
 have hr_ : ∀ g, cfg.raw g = (g == 152 || g == 118) := fun _ => rfl
 refine rF_fn rfl rfl Tryz.func12 rfl ?_
 have hco := hcells_one (k := k) (n := n) (v := v) (l := l)
 have hg1 : ∀ {s : Option Nat}, partD (some false) s (hcells k n v l) 1 = some (.str n) := fun {s} => rfl
 have hpl : ∀ {x : Option AV}, plainD (hcells k n v l) x = x := fun {x} => by
  unfold plainD
  rw [if_pos (plainRow_one hco)]
 generalize hcells k n v l = cs at *
 repeat' first|simp (disch:=first|omega|assumption|decide) only[go_sem,hm,hz,ht,hr_,hco,hpl,hg1,wdl,bind_some_,map_some_,oneD_fold]|(apply ifP_in<;>intro)
 exact List.prefix_append _ _
theorem opens_int (W : World) {HH : Type} {enc : TypeId × Value → HH} : Opens Tryz.prog W enc 3 (fun n : Int => [AV.v (.int .i64 n)]) (fun n => (Lit.int .i64 n).wf = true) := Opens.int Tryz.underlying3 (by kernel_rfl)
structure HostV where
 k : Int
 n : List UInt8
 v : Int
 l : List Int
def HostV.cells (h : HostV) : List AV := hcells h.k h.n h.v h.l
def HostV.ok (h : HostV) : Prop := h.n.length ≤ 140737488351232 ∧ (Lit.int .u32 h.v).wf = true ∧ h.l.length = 8 ∧ ∀ x ∈ h.l, (Lit.int .u16 x).wf = true
theorem opens_host {W : World} {HH : Type} {enc : TypeId × Value → HH} : Opens Tryz.prog W enc 27 HostV.cells HostV.ok :=
 Opens.iso (fun p : Int × List UInt8 × Int × List Int × Unit => (⟨p.1, p.2.1, p.2.2.1, p.2.2.2.1⟩ : HostV))
  (Opens.struct Tryz.underlying27 (tot := 11) (by kernel_rfl)
   (OpensF.cons (n0 := 1) (opens_int W) rfl (by kernel_rfl) (OpensF.cons (n0 := 1) (Opens.str Tryz.underlying9 (by kernel_rfl)) rfl (by kernel_rfl) (OpensF.cons (n0 := 1) (Opens.int Tryz.underlying22 (by kernel_rfl)) rfl (by kernel_rfl) (OpensF.cons (n0 := 8) (Opens.array Tryz.underlying24 Tryz.underlying23 (by kernel_rfl) (by kernel_rfl)) rfl (by kernel_rfl) OpensF.nil rfl) rfl) rfl) rfl))
  (fun p => by obtain ⟨a, b, c, d, e⟩ := p; simp [HostV.cells, hcells]) (fun p hp => ⟨hp.2.1, hp.2.2.1, hp.2.2.2.1.1, hp.2.2.2.1.2⟩)
end Hs
end Go.Proofs
/- Walks: the law of hosts as keys. -/
set_option linter.unusedVariables false
set_option linter.unusedSimpArgs false
namespace Go.Proofs
open Go.Lv
namespace Hs
open Pu Ut Utf In
variable {H : Heap}
theorem eqH_key {k v k' v' : Int} {n n' : List UInt8} {l l' : List Int} (ha : mayB k n v l = true) (hb : mayB k' n' v' l' = true) : eqH k n v l k' n' v' l' = (decide (k = k') && decide (pr k n v l = pr k' n' v' l')) := by
 have ha := @of_decide_eq_true _ (Classical.propDecidable _) ha
 have hb := @of_decide_eq_true _ (Classical.propDecidable _) hb
 unfold eqH
 rw [Bool.eq_iff_iff, Bool.and_eq_true, decide_eq_true_iff, decide_eq_true_iff, decide_eq_true_iff]
 constructor
 ·rintro ⟨rfl, rfl, rfl, rfl⟩
  exact ⟨rfl, rfl⟩
 ·rintro ⟨rfl, e⟩
  rw [e, hb] at ha
  have := hcells_inj (congrArg Prod.fst ha)
  exact ⟨rfl, this.2.1.symm, this.2.2.1.symm, this.2.2.2.symm⟩
theorem eqH_comm {k v k' v' : Int} {n n' : List UInt8} {l l' : List Int} : eqH k n v l k' n' v' l' = eqH k' n' v' l' k n v l := by
 unfold eqH
 rw [Bool.eq_iff_iff, decide_eq_true_iff, decide_eq_true_iff]
 constructor
 ·rintro ⟨rfl, rfl, rfl, rfl⟩; exact ⟨rfl, rfl, rfl, rfl⟩
 ·rintro ⟨rfl, rfl, rfl, rfl⟩; exact ⟨rfl, rfl, rfl, rfl⟩
theorem upd_e {P : Program} {K9 : Heap} {t kt et : TypeId} {xs : List AV} {y : Value} {fs : Array Field} {j : Nat} (hm : mapTy P t = some (kt, et)) (hd : P.underlying kt = some (.struct fs)) (hsi : P.stoodInHeld kt = false) (hself : eqFs P xs xs fs.toList = some true) (hy : (AV.v y).one = true) (hj : K9[j]? = some [.mv [] []]) :
  updateA P K9 t (.mp j) (.agg xs) (.v y) = some (K9.set j [.mv [.agg xs] [.v y]]) := by
 have hmo : mapOf K9 j = some ([], []) := by unfold mapOf; rw [hj]
 have hk : keyKind P kt (.agg xs) = false := by unfold keyKind; rw [hd]
 unfold updateA
 rw [hm, Option.bind_some]
 simp only
 rw [if_neg (by rw [hk]; simp)]
 unfold updateG
 rw [hd]
 simp only
 rw [if_pos ⟨hsi, hself, by simp [AV.cells, hy]⟩, hmo]
theorem look_e {P : Program} {K9 : Heap} {t kt et : TypeId} {xs ys : List AV} {v z : AV} {fs : Array Field} {j : Nat} {b : Bool} (hm : mapTy P t = some (kt, et)) (hd : P.underlying kt = some (.struct fs)) (hsi : P.stoodInHeld kt = false) (hq : eqFs P xs ys fs.toList = some b) (hz : zeroV P et = some z) (hj : K9[j]? = some [.mv [.agg ys] [v]]) :
  lookupA P K9 t (.mp j) (.agg xs) false = some (if b = true then v else z) := by
 have hmo : mapOf K9 j = some ([.agg ys], [v]) := by unfold mapOf; rw [hj]
 have hk : keyKind P kt (.agg xs) = false := by unfold keyKind; rw [hd]
 unfold lookupA
 rw [hm, Option.bind_some]
 simp only
 rw [if_neg (by rw [hk]; simp)]
 unfold lookupG
 rw [hd]
 simp only
 rw [if_pos hsi, hmo]
 simp only
 rw [hq, Option.bind_some]
 cases b with
 | true => rfl
 | false => simp only; rw [hz]; rfl
theorem eqFs_of_bin {P : Program} {t : TypeId} {fs : Array Field} {xs ys : List AV} {b : Bool} (hg : P.eqGuardType P.depth t = false) (hd : P.underlying t = some (.struct fs)) (hsi : P.stoodInHeld t = false) (h : bin P .eql t (.agg xs) (.agg ys) = some (.b b)) : eqFs P xs ys fs.toList = some b := by
 have h2 : binAgg P .eql t xs ys = some (.b b) := h
 unfold binAgg at h2
 rw [if_pos hg, hd] at h2
 simp only at h2
 rw [if_pos hsi] at h2
 obtain ⟨u, hu, h2⟩ := xoB.1 h2
 have h3 : some (AV.b u) = some (.b b) := h2
 injection h3 with h3; injection h3 with h3; injection h3 with h3
 rw [hu, h3]
theorem upd_h {K9 : Heap} {k v : Int} {n : List UInt8} {l : List Int} {y : Value} {j : Nat} (hl : l.length = 8) (hy : (AV.v y).one = true) (hj : K9[j]? = some [.mv [] []]) : updateA Tryz.prog K9 38 (.mp j) (.agg (hcells k n v l)) (.v y) = some (K9.set j [.mv [.agg (hcells k n v l)] [.v y]]) := by
 refine upd_e (by unfold mapTy; rw [Tryz.underlying38]) Tryz.underlying27 stoodH ?_ hy hj
 have h := eqFs_of_bin guardH Tryz.underlying27 stoodH (bin_host (k := k) (n := n) (v := v) (k' := k) (n' := n) (v' := v) hl hl)
 rw [h]
 unfold eqH; simp
theorem mty : mapTy Tryz.prog 38 = some (27, 3) := by unfold mapTy; rw [Tryz.underlying38]
set_option maxRecDepth 100000 in
theorem zero_i : zeroV Tryz.prog 3 = some (.i 0) := by unfold zeroV Tables.info?; rw [Tryz.type3]; rfl
theorem look_h {K9 : Heap} {k v k' v' : Int} {n n' : List UInt8} {l l' : List Int} {x : AV} {j : Nat} (hl : l.length = 8) (hl' : l'.length = 8) (hj : K9[j]? = some [.mv [.agg (hcells k' n' v' l')] [x]]) : lookupA Tryz.prog K9 38 (.mp j) (.agg (hcells k n v l)) false = some (if eqH k n v l k' n' v' l' = true then x else .i 0) := by
 have h1 : mapTy Tryz.prog 38 = some (27, 3) := by unfold mapTy; rw [Tryz.underlying38]
 have h2 := eqFs_of_bin guardH Tryz.underlying27 stoodH (bin_host (k := k) (n := n) (v := v) (k' := k') (n' := n') (v' := v') hl hl')
 exact look_e h1 Tryz.underlying27 stoodH h2 zero_i hj
theorem keys_w (k : Int) (n : List UInt8) (v : Int) (l : List Int) (k' : Int) (n' : List UInt8) (v' : Int) (l' : List Int) (hl : l.length = 8) (hu : Ho.u16s l) (h0 : 0 ≤ v) (h1 : v < 4294967296) (hn : n.length ≤ 140737488355328) (hl' : l'.length = 8) (hu' : Ho.u16s l') (h0' : 0 ≤ v') (h1' : v' < 4294967296) (hn' : n'.length ≤ 140737488355328) :
  WF Tryz.prog cfg 6 [.agg (hcells k n v l), .agg (hcells k' n' v' l')] H (fun r H' => r = .b true) := by
 have hm : ∀ d, cfg.muF 6 d = (false) := fun _ => rfl
 have hz : ∀ d, cfg.fzF 6 d = (false) := fun _ => rfl
 have ht : ∀ d, cfg.tkF 6 d = (false) := fun _ => rfl
 have hr_ : ∀ g, cfg.raw g = (g == 152 || g == 118) := fun _ => rfl
 refine rF_fn rfl rfl Tryz.func6 rfl ?_
 have hco := hcells_one (k := k) (n := n) (v := v) (l := l)
 have hcl := hcells_len (k := k) (n := n) (v := v) hl
 have hco' := hcells_one (k := k') (n := n') (v := v') (l := l')
 have hcl' := hcells_len (k := k') (n := n') (v := v') hl'
 have hfw := fun {H : Heap} => few_w (H := H) k n v l hn
 have hfw' := fun {H : Heap} => few_w (H := H) k' n' v' l' hn'
 have hg0 : ∀ {s : Option Nat}, partD (some false) s (hcells k n v l) 0 = some (.i k) := fun {s} => rfl
 have hg0' : ∀ {s : Option Nat}, partD (some false) s (hcells k' n' v' l') 0 = some (.i k') := fun {s} => rfl
 have hpl : ∀ {x : Option AV}, plainD (hcells k n v l) x = x := fun {x} => by
  unfold plainD
  rw [if_pos (plainRow_one hco)]
 have hpl' : ∀ {x : Option AV}, plainD (hcells k' n' v' l') x = x := fun {x} => by
  unfold plainD
  rw [if_pos (plainRow_one hco')]
 have hbin := bin_host (k := k) (n := n) (v := v) (k' := k') (n' := n') (v' := v') hl hl'
 have hup := fun {K9 : Heap} {j : Nat} (hj : K9[j]? = some [.mv [] []]) => upd_h (K9 := K9) (k := k) (n := n) (v := v) (y := .int .i64 7) (j := j) hl rfl hj
 have hlk := fun {K9 : Heap} {j : Nat} (hj : K9[j]? = some [.mv [.agg (hcells k n v l)] [.i 7]]) => look_h (K9 := K9) (k := k') (n := n') (v := v') (x := .i 7) (j := j) hl' hl hj
 simp only [eqH_comm (k := k')] at hlk
 have hmm : n.length ≤ 12000 → ∀ {H : Heap}, WF Tryz.prog cfg 15 [.agg (hcells k n v l)] H (fun r H' => r = .b (mayB k n v l) ∧ H <+: H') := fun h {H} => may_w k n v l hl hu h0 h1 h
 have hmm' : n'.length ≤ 12000 → ∀ {H : Heap}, WF Tryz.prog cfg 15 [.agg (hcells k' n' v' l')] H (fun r H' => r = .b (mayB k' n' v' l') ∧ H <+: H') := fun h {H} => may_w k' n' v' l' hl' hu' h0' h1' h
 have hpw := fun {H : Heap} => print_w (H := H) k n v l hl hu h0 h1
 have hpw' := fun {H : Heap} => print_w (H := H) k' n' v' l' hl' hu' h0' h1'
 have hkey := @eqH_key k v k' v' n n' l l'
 generalize eqH k n v l k' n' v' l' = q at *
 generalize pr k n v l = t at *
 generalize pr k' n' v' l' = t' at *
 generalize mayB k n v l = ma at *
 generalize mayB k' n' v' l' = mb at *
 generalize hcells k n v l = ca at *
 generalize hcells k' n' v' l' = cb at *
 have htk : ca.take 11 = ca := List.take_of_length_le (by omega)
 have htk' : cb.take 11 = cb := List.take_of_length_le (by omega)
 repeat' first|simp (disch:=first|omega|assumption|decide) only[go_sem,hm,hz,ht,hr_,first_e,hco,hco',hpl,hpl',hcl,hcl',Nat.le_refl,if_true,htk,htk',g2a,g2b,wdl,bind_some_,map_some_,oneD_fold]|(apply ifP_in<;>intro)
 refine rF_use hfw ?_
 rintro _ H1 ⟨rfl, T1, rfl⟩
 have ga : (H ++ [ca] ++ [cb] ++ T1)[H.length]? = some ca := by simp
 have gb : (H ++ [ca] ++ [cb] ++ T1)[H.length + 1]? = some cb := by
  rw [List.append_assoc, List.append_assoc, xgR (by omega)]; simp
 have hlb : (H ++ [ca]).length = H.length + 1 := by simp
 by_cases f1 : n.length ≤ 5000
 ·rw [decide_eq_true (by omega)]
  repeat' first|simp (disch:=first|omega|assumption|decide) only[go_sem,hm,hz,ht,hr_,first_e,hpl,hpl',hcl,hcl',Nat.le_refl,if_true,htk,htk',ga,gb,hlb,wdl,bind_some_,map_some_,oneD_fold]|(apply ifP_in<;>intro)
  refine rF_use hfw' ?_
  rintro _ H2 ⟨rfl, T2, rfl⟩
  have ga2 : (H ++ [ca] ++ [cb] ++ T1 ++ T2)[H.length]? = some ca := by simp
  have gb2 : (H ++ [ca] ++ [cb] ++ T1 ++ T2)[H.length + 1]? = some cb := by
   rw [List.append_assoc _ T1, List.append_assoc, List.append_assoc, xgR (by omega)]; simp
  by_cases f2 : n'.length ≤ 5000
  ·rw [decide_eq_true (by omega)]
   repeat' first|simp (disch:=first|omega|assumption|decide) only[go_sem,hm,hz,ht,hr_,first_e,hpl,hpl',hcl,hcl',Nat.le_refl,if_true,htk,htk',ga2,gb2,hlb,wdl,bind_some_,map_some_,oneD_fold]|(apply ifP_in<;>intro)
   refine rF_use (hmm (by omega)) ?_
   rintro _ H3 ⟨rfl, T3, rfl⟩
   have gb3 : (H ++ [ca] ++ [cb] ++ T1 ++ T2 ++ T3)[H.length + 1]? = some cb := by
    rw [List.append_assoc _ T2, List.append_assoc _ T1, List.append_assoc, List.append_assoc, xgR (by omega)]; simp
   cases ma with
   | false =>
    repeat' first|simp (disch:=first|omega|assumption|decide) only[go_sem,hm,hz,ht,hr_,first_e,hpl,hpl',hcl,hcl',Nat.le_refl,if_true,htk,htk',gb3,hlb,wdl,bind_some_,map_some_,oneD_fold]|(apply ifP_in<;>intro)
   | true =>
    repeat' first|simp (disch:=first|omega|assumption|decide) only[go_sem,hm,hz,ht,hr_,first_e,hpl,hpl',hcl,hcl',Nat.le_refl,if_true,htk,htk',gb3,hlb,wdl,bind_some_,map_some_,oneD_fold]|(apply ifP_in<;>intro)
    refine rF_use (hmm' (by omega)) ?_
    rintro _ H4 ⟨rfl, T4, rfl⟩
    cases mb with
    | false =>
     repeat' first|simp (disch:=first|omega|assumption|decide) only[go_sem,hm,hz,ht,hr_,first_e,wdl,bind_some_,map_some_,oneD_fold]|(apply ifP_in<;>intro)
    | true =>
     have hkey := hkey rfl rfl
     have ga4 : (H ++ [ca] ++ [cb] ++ T1 ++ T2 ++ T3 ++ T4 ++ [[.mv [] []]])[H.length]? = some ca := by simp
     generalize hR : H ++ [ca] ++ [cb] ++ T1 ++ T2 ++ T3 ++ T4 = R at *
     have hRl : (R ++ [[AV.mv [] []]])[R.length]? = some [AV.mv [] []] := by simp
     have hup2 := hup hRl
     have hset : (R ++ [[AV.mv [] []]]).set R.length [.mv [.agg ca] [.v (.int .i64 7)]] = R ++ [[.mv [.agg ca] [.i 7]]] := by simp
     rw [hset] at hup2
     have hR0 : R[H.length]? = some ca := by rw [← hR]; simp
     repeat' first|simp (disch:=first|omega|assumption|decide) only[go_sem,hm,hz,ht,hr_,first_e,hpl,hpl',hcl,hcl',Nat.le_refl,if_true,htk,htk',hlb,ga4,hup2,mty,wdl,bind_some_,map_some_,oneD_fold]|(apply ifP_in<;>intro)
     have hRs : H.length + 2 ≤ R.length := by rw [← hR]; simp only [List.length_append, List.length_cons, List.length_nil]; omega
     have hR1 : R[H.length + 1]? = some cb := by
      rw [← hR]
      simp only [List.append_assoc]
      rw [xgR (by omega)]; simp
     have gA : ∀ T : Heap, (R ++ T)[H.length]? = some ca := fun T => by rw [xgL (by omega)]; exact hR0
     have gB : ∀ T : Heap, (R ++ T)[H.length + 1]? = some cb := fun T => by rw [xgL (by omega)]; exact hR1
     have gA2 : ∀ T U : Heap, (R ++ T ++ U)[H.length]? = some ca := fun T U => by rw [List.append_assoc]; exact gA _
     have gB2 : ∀ T U : Heap, (R ++ T ++ U)[H.length + 1]? = some cb := fun T U => by rw [List.append_assoc]; exact gB _
     have gA3 : ∀ T U V : Heap, (R ++ T ++ U ++ V)[H.length]? = some ca := fun T U V => by rw [List.append_assoc]; exact gA2 _ _
     have gB3 : ∀ T U V : Heap, (R ++ T ++ U ++ V)[H.length + 1]? = some cb := fun T U V => by rw [List.append_assoc]; exact gB2 _ _
     by_cases c1 : k = k'
     ·have cT : (k = k') = True := eq_true c1
      have cD : decide (k = k') = true := decide_eq_true c1
      rw [cD, Bool.true_and] at hkey
      repeat' first|simp (disch:=first|omega|assumption|decide) only[go_sem,hm,hz,ht,hr_,first_e,hpl,hpl',hcl,hcl',Nat.le_refl,if_true,htk,htk',hlb,gA,gB,hbin,hg0,hg0',cT,cD,wdl,bind_some_,map_some_,oneD_fold]|(apply ifP_in<;>intro)
      refine rF_use hpw ?_
      rintro _ H5 ⟨rfl, T5, rfl⟩
      repeat' first|simp (disch:=first|omega|assumption|decide) only[go_sem,hm,hz,ht,hr_,first_e,hpl,hpl',hcl,hcl',Nat.le_refl,if_true,htk,htk',hlb,gA,gB,gA2,gB2,hbin,hg0,hg0',cT,cD,wdl,bind_some_,map_some_,oneD_fold]|(apply ifP_in<;>intro)
      refine rF_use hpw' ?_
      rintro _ H6 ⟨rfl, T6, rfl⟩
      have hm6 : (R ++ [[AV.mv [.agg ca] [.i 7]]] ++ T5 ++ T6)[R.length]? = some [AV.mv [.agg ca] [.i 7]] := by simp
      have hl6 := hlk hm6
      by_cases c2 : t = t'
      ·have dT : decide (t = t') = true := decide_eq_true c2
       have dP : (t = t') = True := eq_true c2
       rw [dT] at hkey
       subst hkey
       repeat' first|simp (disch:=first|omega|assumption|decide) only[go_sem,hm,hz,ht,hr_,first_e,hpl,hpl',hcl,hcl',Nat.le_refl,if_true,htk,htk',hlb,gA,gB,gA2,gB2,gA3,gB3,hbin,hg0,hg0',cT,cD,dT,dP,hl6,wdl,bind_some_,map_some_,oneD_fold]|(apply ifP_in<;>intro)
      ·have dT : decide (t = t') = false := decide_eq_false c2
       have dP : (t = t') = False := eq_false c2
       rw [dT] at hkey
       subst hkey
       repeat' first|simp (disch:=first|omega|assumption|decide) only[go_sem,hm,hz,ht,hr_,first_e,hpl,hpl',hcl,hcl',Nat.le_refl,if_true,htk,htk',hlb,gA,gB,gA2,gB2,gA3,gB3,hbin,hg0,hg0',cT,cD,dT,dP,hl6,wdl,bind_some_,map_some_,oneD_fold]|(apply ifP_in<;>intro)
     ·have cT : (k = k') = False := eq_false c1
      have cD : decide (k = k') = false := decide_eq_false c1
      rw [cD, Bool.false_and] at hkey
      subst hkey
      have hm6 : (R ++ [[AV.mv [.agg ca] [.i 7]]])[R.length]? = some [AV.mv [.agg ca] [.i 7]] := by simp
      have hl6 := hlk hm6
      repeat' first|simp (disch:=first|omega|assumption|decide) only[go_sem,hm,hz,ht,hr_,first_e,hpl,hpl',hcl,hcl',Nat.le_refl,if_true,htk,htk',hlb,gA,gB,hbin,hg0,hg0',cT,cD,hl6,wdl,bind_some_,map_some_,oneD_fold]|(apply ifP_in<;>intro)
  ·rw [decide_eq_false (by omega)]
   repeat' first|simp (disch:=first|omega|assumption|decide) only[go_sem,hm,hz,ht,hr_,first_e,wdl,bind_some_,map_some_,oneD_fold]|(apply ifP_in<;>intro)
 ·rw [decide_eq_false (by omega)]
  repeat' first|simp (disch:=first|omega|assumption|decide) only[go_sem,hm,hz,ht,hr_,first_e,wdl,bind_some_,map_some_,oneD_fold]|(apply ifP_in<;>intro)
theorem keys_row (h h' : HostV) (ok : h.ok) (ok' : h'.ok) : WF Tryz.prog cfg 6 [.agg h.cells, .agg h'.cells] H (fun r H' => r = .b true) := by
 obtain ⟨k, n, v, l⟩ := h
 obtain ⟨o1, o2, o3, o4⟩ := ok
 obtain ⟨k', n', v', l'⟩ := h'
 obtain ⟨p1, p2, p3, p4⟩ := ok'
 simp only at o1 o2 o3 o4 p1 p2 p3 p4
 simp [Lit.wf, IntKind.min, IntKind.max, IntKind.signed, IntKind.bits] at o2 p2
 exact keys_w k n v l k' n' v' l' o3 (fun x hx => by
  have := o4 x hx
  simp [Lit.wf, IntKind.min, IntKind.max, IntKind.signed, IntKind.bits] at this
  omega) (by omega) (by omega) (by omega) p3 (fun x hx => by
  have := p4 x hx
  simp [Lit.wf, IntKind.min, IntKind.max, IntKind.signed, IntKind.bits] at this
  omega) (by omega) (by omega) (by omega)
end Hs
end Go.Proofs
