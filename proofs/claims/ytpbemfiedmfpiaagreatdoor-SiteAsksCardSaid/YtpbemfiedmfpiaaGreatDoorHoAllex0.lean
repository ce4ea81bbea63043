/- The plain law of hosts: what is read is printed, and read as the same. -/
import Derived.Test.YtpbemfiedmfpiaaGreatDoorHoAlldx0
import Derived.Test.YtpbemfiedmfpiaaGreatDoorIdAllbx0
import Derived.Test.YtpbemfiedmfpiaaGreatDoorLvAll19
set_option linter.unusedVariables false
set_option linter.unusedSimpArgs false
namespace Go.Proofs
open Go.Lv
namespace Hs
theorem asc_ints (s : List UInt8) : Utf.asc (Puny.ints s) = s := by
 induction s with
 | nil => rfl
 | cons c r ih =>
  show UInt8.ofNat ((c.toNat : Int)).toNat :: Utf.asc (Puny.ints r) = _
  rw [ih]; simp
theorem plain_ints {s : List UInt8} (h : ∀ c ∈ s, c.toNat < 128) : Id.plain (Puny.ints s) = true := by
 refine List.all_eq_true.2 fun c hc => ?_
 obtain ⟨x, hx, rfl⟩ := List.mem_map.1 hc
 have := h x hx
 simp [Id.high]; omega
def pr (k : Int) (n : List UInt8) (v : Int) (l : List Int) : List UInt8 := if k = 1 ∨ k = 4 then n else if k = 2 then Ho.pr4 v else if k = 3 then [91] ++ Ho.pr6 l ++ [93] else []
end Hs
end Go.Proofs
/- Walks: eight pieces as a text, the program's side. -/
set_option linter.unusedVariables false
set_option linter.unusedSimpArgs false
namespace Go.Proofs
open Go.Lv
namespace Hs
open Pu Ut Utf In
variable {H : Heap}
theorem zeros_w (l : List Int) (hl : l.length = 8) (hu : Ho.u16s l) : WF Tryz.prog cfg 68 [.agg (l.map uA)] H (fun r H' => r = .tup [.i (Ho.zr l).1, .i (Ho.zr l).2] ∧ H <+: H') := by
 have hm : ∀ d, cfg.muF 68 d = (false) := fun _ => rfl
 have hz : ∀ d, cfg.fzF 68 d = (false) := fun _ => rfl
 have ht : ∀ d, cfg.tkF 68 d = (false) := fun _ => rfl
 have hr_ : ∀ g, cfg.raw g = (g == 253 || g == 225 || g == 53) := fun _ => rfl
 refine rF_fn rfl rfl Tryz.func68 rfl ?_
 have ho := one_u (vs := l)
 have hpl : ∀ {x : Option AV}, plainD (l.map uA) x = x := fun {x} => by
  unfold plainD
  rw [if_pos (plainRow_one ho)]
 have hml : (l.map uA).length = 8 := by simp [hl]
 have htk : (l.map uA).take 8 = l.map uA := List.take_of_length_le (by omega)
 repeat' first|simp (disch:=first|omega|assumption|decide) only[go_sem,hm,hz,ht,hr_,ho,hpl,hml,htk,Nat.le_refl,if_true,wdl,bind_some_,map_some_,oneD_fold]|(apply ifP_in<;>intro)
 refine rL_loop (σ := Nat) (fun i e K => K = H ++ [l.map uA] ∧ e 9 = .agg (l.map uA) ∧ e 10 = .i i ∧ e 4 = .i (Ho.zf (l.take i)).1 ∧ e 5 = .i (Ho.zf (l.take i)).2.1 ∧ e 6 = .i (Ho.zf (l.take i)).2.2.1 ∧ i ≤ 8) (fun i => 8 - i) 0 ?_ ?_
 ·refine ⟨rfl, ?_, ?_, ?_, ?_, ?_, by omega⟩
  all_goals first | (simp (disch := first | assumption | omega) only [go_sem]; done) | (simp (disch := first | assumption | omega) only [go_sem]; rfl)
 ·rintro i e K ⟨rfl, g9, g10, g4, g5, g6, i1⟩
  by_cases hi : i < 8
  ·have hil : i < l.length := by omega
   have hst := Ho.zf_take hil
   obtain ⟨k1, k2, k3, k4, k5, k6, k7, k8⟩ := Ho.zf_inv l i (by omega)
   have hlen : (l.take i).length = i := by simp; omega
   rw [hlen] at k1 k3 k7
   have hx := hu _ (List.getElem_mem hil)
   have hpi : ∀ {s : Option Nat}, partD (some false) s (l.map uA) i = some (uA l[i]) := fun {s} => by rw [partD_map, xgE hil]; rfl
   generalize l[i] = x at *
   generalize Ho.zf (l.take i) = s at *
   obtain ⟨a, m, n, q⟩ := s
   simp only at g4 g5 g6 k1 k2 k3 k5 k6 k7
   subst k1
   have hn1 : (n : Int) + 1 < 100 := by omega
   by_cases hx0 : x = 0
   ·have hst2 : Ho.zstep x (a, m, n, (i : Int)) = if m < n + 1 then ((i : Int) + 1 - (n + 1), n + 1, n + 1, (i : Int) + 1) else (a, m, n + 1, (i : Int) + 1) := by unfold Ho.zstep; simp only [hx0, if_true]
    rw [hst2] at hst
    subst hx0
    repeat' first|simp (disch:=first|omega|assumption|decide) only[go_sem,hm,hz,ht,hr_,g9,g10,g4,g5,g6,hpi,wdl,bind_some_,map_some_,oneD_fold]|(apply ifP_in<;>intro)
    ·rw [if_pos (by omega)] at hst
     exact ⟨i + 1, ⟨rfl, by rw [hst], by rw [hst], by rw [hst], by omega⟩, by omega⟩
    ·rw [if_neg (by omega)] at hst
     exact ⟨i + 1, ⟨rfl, by rw [hst], by rw [hst], by rw [hst], by omega⟩, by omega⟩
   ·have hst2 : Ho.zstep x (a, m, n, (i : Int)) = (a, m, 0, (i : Int) + 1) := by unfold Ho.zstep; simp only [hx0, if_false]; rw [if_neg (by omega)]
    rw [hst2] at hst
    repeat' first|simp (disch:=first|omega|assumption|decide) only[go_sem,hm,hz,ht,hr_,g9,g10,g4,g5,g6,hpi,wdl,bind_some_,map_some_,oneD_fold]|(apply ifP_in<;>intro)
    exact ⟨i + 1, ⟨rfl, by rw [hst], by rw [hst], by rw [hst], by omega⟩, by omega⟩
  ·obtain rfl : i = 8 := by omega
   have h8 : l.take 8 = l := List.take_of_length_le (by omega)
   rw [h8] at g4 g5 g6
   repeat' first|simp (disch:=first|omega|assumption|decide) only[go_sem,hm,hz,ht,hr_,g9,g10,g4,g5,g6,wdl,bind_some_,map_some_,oneD_fold]|(apply ifP_in<;>intro)
   exact ⟨by rw [Ho.zr_zf], List.prefix_append _ _⟩
theorem text_w (l : List Int) (hu : Ho.u16s l) (j off len : Nat) (hj : H[j]? = some (l.map uA)) (ho : off + len ≤ l.length) (hl8 : l.length ≤ 8) : WF Tryz.prog cfg 69 [.mr j off len 1 false] H (fun r H' => r = .str (Ho.tx6 ((l.drop off).take len)) ∧ H <+: H') := by
 have hm : ∀ d, cfg.muF 69 d = (false) := fun _ => rfl
 have hz : ∀ d, cfg.fzF 69 d = (false) := fun _ => rfl
 have ht : ∀ d, cfg.tkF 69 d = (false) := fun _ => rfl
 have hr_ : ∀ g, cfg.raw g = (g == 253 || g == 225 || g == 53) := fun _ => rfl
 refine rF_fn rfl rfl Tryz.func69 rfl ?_
 repeat' first|simp (disch:=first|omega|assumption|decide) only[go_sem,hm,hz,ht,hr_,wdl,bind_some_,map_some_,oneD_fold]|(apply ifP_in<;>intro)
 refine rL_loop (σ := Nat) (fun i e K => H <+: K ∧ e 6 = .mr j off len 1 false ∧ e 7 = .i len ∧ e 8 = .i i ∧ e 3 = .sl ((((l.drop off).take i).map Ho.hx).map AV.str) ∧ i ≤ len) (fun i => len - i) 0 ?_ ?_
 ·refine ⟨List.prefix_refl _, ?_, ?_, ?_, ?_, by omega⟩
  all_goals first | (simp (disch := first | assumption | omega) only [go_sem]; done) | (simp (disch := first | assumption | omega) only [go_sem]; rfl)
 ·rintro i e K ⟨hK, g6, g7, g8, g3, i1⟩
  have hjK : K[j]? = some (l.map uA) := by
   obtain ⟨T, rfl⟩ := hK
   rw [xgL (xgI.1 hj).1]; exact hj
  by_cases hi : i < len
  ·have hoi : off + i < l.length := by omega
   have hpi : ∀ {s : Option Nat}, partD (some false) s (l.map uA) (off + i) = some (uA l[off + i]) := fun {s} => by rw [partD_map, xgE hoi]; rfl
   have hv := hu _ (List.getElem_mem hoi)
   have hts : (l.drop off).take (i + 1) = (l.drop off).take i ++ [l[off + i]] := by
    rw [List.take_succ_eq_append_getElem (by simp; omega)]
    simp
   generalize l[off + i] = v at *
   repeat' first|simp (disch:=first|omega|assumption|decide) only[go_sem,hm,hz,ht,hr_,g6,g7,g8,g3,hjK,hpi,plainD_map,wdl,bind_some_,map_some_,oneD_fold]|(apply ifP_in<;>intro)
   refine rF_use (bits_e v hv.1 hv.2) ?_
   rintro _ K1 ⟨rfl, T1, rfl⟩
   have hln : (((l.drop off).take i).map Ho.hx).length ≤ 8 := by simp; omega
   repeat' first|simp (disch:=first|omega|assumption|decide) only[go_sem,hm,hz,ht,hr_,g6,g7,g8,g3,wdl,bind_some_,map_some_,oneD_fold]|(apply ifP_in<;>intro)
   exact ⟨i + 1, ⟨hK.trans (List.prefix_append _ _), rfl, by rw [hts]; simp, by omega⟩, by omega⟩
  ·obtain rfl : i = len := by omega
   have hjl := Ho.tx6_len ((l.drop off).take i)
   have hll : ((l.drop off).take i).length ≤ 8 := by simp; omega
   have hj := @join_e K (((l.drop off).take i).map Ho.hx) 58 (by show (Ho.tx6 _).length ≤ _; omega) (by simp; omega)
   repeat' first|simp (disch:=first|omega|assumption|decide) only[go_sem,hm,hz,ht,hr_,g6,g7,g8,g3,hj,wdl,bind_some_,map_some_,oneD_fold]|(apply ifP_in<;>intro)
   exact ⟨rfl, hK⟩
theorem text0_w : WF Tryz.prog cfg 69 [.sl []] H (fun r H' => r = .str [] ∧ H <+: H') := by
 have hm : ∀ d, cfg.muF 69 d = (false) := fun _ => rfl
 have hz : ∀ d, cfg.fzF 69 d = (false) := fun _ => rfl
 have ht : ∀ d, cfg.tkF 69 d = (false) := fun _ => rfl
 have hr_ : ∀ g, cfg.raw g = (g == 253 || g == 225 || g == 53) := fun _ => rfl
 refine rF_fn rfl rfl Tryz.func69 rfl ?_
 repeat' first|simp (disch:=first|omega|assumption|decide) only[go_sem,hm,hz,ht,hr_,wdl,bind_some_,map_some_,oneD_fold]|(apply ifP_in<;>intro)
 refine rL_loop (σ := Unit) (fun i e H9 => H9 = H ∧ e 7 = .i 0 ∧ e 8 = .i 0 ∧ e 3 = .sl []) (fun i => 0) () ?_ ?_
 ·refine ⟨rfl, ?_, ?_, ?_⟩
  all_goals first | (simp (disch := first | assumption | omega) only [go_sem]; done) | (simp (disch := first | assumption | omega) only [go_sem]; rfl)
 ·rintro i e H9 ⟨rfl, g7, g8, g3⟩
  have hj : ∀ {Q : K (AV → Heap → Prop)}, @rF Tryz.prog cfg 67 [.sl [], .str [58]] H9 Q = Q.v (.str []) H9 := fun {Q} => @join_e H9 [] 58 (by simp [Sp.join]) (by simp) Q
  repeat' first|simp (disch:=first|omega|assumption|decide) only[go_sem,hm,hz,ht,hr_,g7,g8,g3,hj,wdl,bind_some_,map_some_,oneD_fold]|(apply ifP_in<;>intro)
  exact List.prefix_refl _
section
variable {P : Program} {t e : TypeId}
theorem sliceP [h1 : UndIs P t (.array 8 e)] [h2 : SizeIs P e 1] [h3 : AggIs P e false] [h4 : SizeIs P t 8] {l : List Int} (hl : l.length = 8) {K : Heap} (hj : K[H.length]? = some (l.map uA)) {lo hi : Option AV} :
  sliceM P K t (.ptr H.length 0) lo hi none = (bound 8 hi 8).bind fun h => (bound h lo 0).bind fun o => some (if o < 8 then .mr H.length o (h - o) 1 false else .sl [], K) := by
 unfold sliceM
 simp only [h1.h, h2.h, h3.h, hj, Option.bind_some]
 rw [if_pos ⟨by omega, plainRow_one one_u, by simp [hl], by omega, h4.h⟩]
 simp only [Nat.mul_one, Nat.zero_add]
theorem sliceP1 [h1 : UndIs P t (.array 8 e)] [h2 : SizeIs P e 1] [h3 : AggIs P e false] [h4 : SizeIs P t 8] {l : List Int} (hl : l.length = 8) {K : Heap} (hj : K[H.length]? = some (l.map uA)) :
  sliceM P K t (.ptr H.length 0) none none none = some (.mr H.length 0 8 1 false, K) := by
 rw [sliceP hl hj]; rfl
theorem sliceP2 [h1 : UndIs P t (.array 8 e)] [h2 : SizeIs P e 1] [h3 : AggIs P e false] [h4 : SizeIs P t 8] {l : List Int} (hl : l.length = 8) {K : Heap} (hj : K[H.length]? = some (l.map uA)) {a : Int} (h0 : 0 ≤ a) (h8 : a ≤ 8) :
  sliceM P K t (.ptr H.length 0) none (some (.v (.int .i64 a))) none = some (.mr H.length 0 a.toNat 1 false, K) := by
 rw [sliceP hl hj]
 have b2 : bound 8 (some (.v (.int .i64 a))) 8 = some a.toNat := by
  unfold bound
  simp only
  rw [if_pos ⟨by omega, by omega⟩]
 rw [b2, Option.bind_some]
 have b1 : bound a.toNat none 0 = some 0 := rfl
 rw [b1, Option.bind_some, if_pos (by omega), Nat.sub_zero]
theorem sliceP3 [h1 : UndIs P t (.array 8 e)] [h2 : SizeIs P e 1] [h3 : AggIs P e false] [h4 : SizeIs P t 8] {l : List Int} (hl : l.length = 8) {K : Heap} (hj : K[H.length]? = some (l.map uA)) {a : Int} (h0 : 0 ≤ a) (h8 : a ≤ 8) :
  sliceM P K t (.ptr H.length 0) (some (.v (.int .i64 a))) none none = some (if a.toNat < 8 then .mr H.length a.toNat (8 - a.toNat) 1 false else .sl [], K) := by
 rw [sliceP hl hj]
 have b1 : bound 8 none 8 = some 8 := rfl
 rw [b1, Option.bind_some]
 have b2 : bound 8 (some (.v (.int .i64 a))) 0 = some a.toNat := by
  unfold bound
  simp only
  rw [if_pos ⟨by omega, by omega⟩]
 rw [b2, Option.bind_some]
end
theorem print6_w (l : List Int) (hl : l.length = 8) (hu : Ho.u16s l) : WF Tryz.prog cfg 51 [.agg (l.map uA)] H (fun r H' => r = .str (Ho.pr6 l) ∧ H <+: H') := by
 have hm : ∀ d, cfg.muF 51 d = (d == 12 || d == 15 || d == 21) := fun _ => rfl
 have hz : ∀ d, cfg.fzF 51 d = (false) := fun _ => rfl
 have ht : ∀ d, cfg.tkF 51 d = (false) := fun _ => rfl
 have hr_ : ∀ g, cfg.raw g = (g == 253 || g == 225 || g == 53) := fun _ => rfl
 refine rF_fn rfl rfl Tryz.func51 rfl ?_
 have ho := one_u (vs := l)
 have hml : (l.map uA).length = 8 := by simp [hl]
 have htk : (l.map uA).take 8 = l.map uA := List.take_of_length_le (by omega)
 obtain ⟨z1, z2, z3, z4⟩ := Ho.zr_ok l
 have hp : Ho.pr6 l = if (Ho.zr l).2 < 2 then Ho.tx6 l else Ho.tx6 (l.take (Ho.zr l).1.toNat) ++ Ho.DC ++ Ho.tx6 (l.drop ((Ho.zr l).1 + (Ho.zr l).2).toNat) := rfl
 rw [hp]
 repeat' first|simp (disch:=first|omega|assumption|decide) only[go_sem,hm,hz,ht,hr_,ho,plainD_map,hml,htk,Nat.le_refl,if_true,wdl,bind_some_,map_some_,oneD_fold]|(apply ifP_in<;>intro)
 refine rF_use (zeros_w l hl hu) ?_
 rintro _ K ⟨rfl, T, rfl⟩
 generalize (Ho.zr l).1 = a at *
 generalize (Ho.zr l).2 = n at *
 have hj : (H ++ [l.map uA] ++ T)[H.length]? = some (l.map uA) := by simp
 have s1 := fun {e : TypeId} [h1 : UndIs Tryz.prog 25 (.array 8 e)] [h2 : SizeIs Tryz.prog e 1] [h3 : AggIs Tryz.prog e false] => sliceP1 (P := Tryz.prog) (t := 25) (e := e) hl hj
 by_cases hn : n < 2
 ·rw [if_pos hn]
  repeat' first|simp (disch:=first|omega|assumption|decide) only[go_sem,hm,hz,ht,hr_,s1,wdl,bind_some_,map_some_,oneD_fold]|(apply ifP_in<;>intro)
  refine rF_use (text_w l hu H.length 0 8 hj (by omega) (by omega)) ?_
  rintro _ H2 ⟨rfl, T2, rfl⟩
  repeat' first|simp (disch:=first|omega|assumption|decide) only[go_sem,hm,hz,ht,hr_,wdl,bind_some_,map_some_,oneD_fold]|(apply ifP_in<;>intro)
  rw [List.take_of_length_le (show l.length ≤ 8 by omega)]
  exact ⟨rfl, by simp only [List.append_assoc]; exact List.prefix_append _ _⟩
 ·rw [if_neg hn]
  have s2 := fun {e : TypeId} [h1 : UndIs Tryz.prog 25 (.array 8 e)] [h2 : SizeIs Tryz.prog e 1] [h3 : AggIs Tryz.prog e false] => sliceP2 (P := Tryz.prog) (t := 25) (e := e) hl hj (a := a) z1 (by omega)
  repeat' first|simp (disch:=first|omega|assumption|decide) only[go_sem,hm,hz,ht,hr_,s2,hj,plainD_map,hml,htk,Nat.le_refl,if_true,wdl,bind_some_,map_some_,oneD_fold]|(apply ifP_in<;>intro)
  refine rF_use (text_w l hu H.length 0 a.toNat hj (by omega) (by omega)) ?_
  rintro _ H2 ⟨rfl, T2, rfl⟩
  have hj2 : (H ++ [l.map uA] ++ T ++ T2)[H.length]? = some (l.map uA) := by simp
  have s3 := fun {e : TypeId} [h1 : UndIs Tryz.prog 25 (.array 8 e)] [h2 : SizeIs Tryz.prog e 1] [h3 : AggIs Tryz.prog e false] => sliceP3 (P := Tryz.prog) (t := 25) (e := e) hl hj2 (a := a + n) (by omega) (by omega)
  have hA : (Ho.tx6 (l.take a.toNat)).length ≤ 40 := by
   have := Ho.tx6_len (l.take a.toNat)
   rw [List.length_take] at this; omega
  have hB : (Ho.tx6 (l.drop (a + n).toNat)).length ≤ 40 := by
   have := Ho.tx6_len (l.drop (a + n).toNat)
   rw [List.length_drop] at this; omega
  have hC : (Ho.tx6 (l.take a.toNat) ++ [58, 58]).length ≤ 42 := by simp; omega
  have hD : ([58, 58] : List UInt8).length = 2 := rfl
  have hN : ([] : List UInt8).length = 0 := rfl
  by_cases h8 : (a + n).toNat < 8
  ·rw [if_pos h8] at s3
   repeat' first|simp (disch:=first|omega|assumption|decide) only[go_sem,hm,hz,ht,hr_,s3,hj,hj2,plainD_map,hml,htk,Nat.le_refl,if_true,hD,wdl,bind_some_,map_some_,oneD_fold]|(apply ifP_in<;>intro)
   refine rF_use (text_w l hu H.length (a + n).toNat (8 - (a + n).toNat) hj2 (by omega) (by omega)) ?_
   rintro _ H3 ⟨rfl, T3, rfl⟩
   have htd : (l.drop (a + n).toNat).take (8 - (a + n).toNat) = l.drop (a + n).toNat := List.take_of_length_le (by simp; omega)
   rw [htd]
   have hj3 : (H ++ [l.map uA] ++ T ++ T2 ++ T3)[H.length]? = some (l.map uA) := by simp
   repeat' first|simp (disch:=first|omega|assumption|decide) only[go_sem,hm,hz,ht,hr_,hj3,plainD_map,hml,htk,Nat.le_refl,if_true,hD,List.length_nil,wdl,bind_some_,map_some_,oneD_fold]|(apply ifP_in<;>intro)
   exact ⟨rfl, by simp only [List.append_assoc]; exact List.prefix_append _ _⟩
  ·rw [if_neg h8] at s3
   repeat' first|simp (disch:=first|omega|assumption|decide) only[go_sem,hm,hz,ht,hr_,s3,hj,hj2,plainD_map,hml,htk,Nat.le_refl,if_true,hD,wdl,bind_some_,map_some_,oneD_fold]|(apply ifP_in<;>intro)
   refine rF_use text0_w ?_
   rintro _ H3 ⟨rfl, T3, rfl⟩
   have htd : l.drop (a + n).toNat = [] := List.drop_eq_nil_of_le (by omega)
   rw [htd]
   have hj3 : (H ++ [l.map uA] ++ T ++ T2 ++ T3)[H.length]? = some (l.map uA) := by simp
   repeat' first|simp (disch:=first|omega|assumption|decide) only[go_sem,hm,hz,ht,hr_,hj3,plainD_map,hml,htk,Nat.le_refl,if_true,hD,List.length_nil,wdl,bind_some_,map_some_,oneD_fold]|(apply ifP_in<;>intro)
   exact ⟨rfl, by simp only [List.append_assoc]; exact List.prefix_append _ _⟩
theorem print_w (k : Int) (n : List UInt8) (v : Int) (l : List Int) (hl : l.length = 8) (hu : Ho.u16s l) (h0 : 0 ≤ v) (h1 : v < 4294967296) : WF Tryz.prog cfg 24 [.agg (hcells k n v l)] H (fun r H' => r = .str (pr k n v l) ∧ H <+: H') := by
 have hm : ∀ d, cfg.muF 24 d = (false) := fun _ => rfl
 have hz : ∀ d, cfg.fzF 24 d = (false) := fun _ => rfl
 have ht : ∀ d, cfg.tkF 24 d = (false) := fun _ => rfl
 have hr_ : ∀ g, cfg.raw g = (g == 253 || g == 225 || g == 53) := fun _ => rfl
 refine rF_fn rfl rfl Tryz.func24 rfl ?_
 have hco := hcells_one (k := k) (n := n) (v := v) (l := l)
 have hml : (l.map uA).length = 8 := by simp [hl]
 have htk : (l.map uA).take 8 = l.map uA := List.take_of_length_le (by omega)
 have hcd : hcells k n v l = .i k :: .str n :: .v (.int .u32 v) :: l.map uA := rfl
 have hp : pr k n v l = if k = 1 ∨ k = 4 then n else if k = 2 then Ho.pr4 v else if k = 3 then [91] ++ Ho.pr6 l ++ [93] else [] := rfl
 rw [hp]
 rw [hcd] at hco ⊢
 have hpl : ∀ {x : Option AV}, plainD (.i k :: .str n :: .v (.int .u32 v) :: l.map uA) x = x := fun {x} => by
  unfold plainD
  rw [if_pos (plainRow_one hco)]
 have hd91 : ([91] : List UInt8).length = 1 := rfl
 have hd93 : ([93] : List UInt8).length = 1 := rfl
 have hpx : ∀ x : List AV, H <+: H ++ [x] := fun x => List.prefix_append _ _
 by_cases k1 : k = 1
 ·subst k1
  rw [if_pos (.inl rfl)]
  repeat' first|simp (disch:=first|omega|assumption|decide) only[go_sem,hm,hz,ht,hr_,hco,hpl,hml,htk,Nat.le_refl,if_true,wdl,bind_some_,map_some_,oneD_fold]|(apply ifP_in<;>intro)
  exact hpx _
 by_cases k4 : k = 4
 ·subst k4
  rw [if_pos (.inr rfl)]
  repeat' first|simp (disch:=first|omega|assumption|decide) only[go_sem,hm,hz,ht,hr_,hco,hpl,hml,htk,Nat.le_refl,if_true,wdl,bind_some_,map_some_,oneD_fold]|(apply ifP_in<;>intro)
  exact hpx _
 rw [if_neg (by rintro (h | h); exact k1 h; exact k4 h)]
 by_cases k2 : k = 2
 ·subst k2
  rw [if_pos rfl]
  repeat' first|simp (disch:=first|omega|assumption|decide) only[go_sem,hm,hz,ht,hr_,hco,hpl,hml,htk,Nat.le_refl,if_true,wdl,bind_some_,map_some_,oneD_fold]|(apply ifP_in<;>intro)
  refine rF_use (print4_w v h0 h1) ?_
  rintro _ H1 ⟨rfl, rfl⟩
  repeat' first|simp (disch:=first|omega|assumption|decide) only[go_sem,hm,hz,ht,hr_,wdl,bind_some_,map_some_,oneD_fold]|(apply ifP_in<;>intro)
  exact hpx _
 rw [if_neg k2]
 by_cases k3 : k = 3
 ·subst k3
  rw [if_pos rfl]
  have hl6 := Ho.pr6_len l
  have hcc : ([91] ++ Ho.pr6 l).length ≤ 90 := by simp; omega
  repeat' first|simp (disch:=first|omega|assumption|decide) only[go_sem,hm,hz,ht,hr_,hco,hpl,hml,htk,Nat.le_refl,if_true,wdl,bind_some_,map_some_,oneD_fold]|(apply ifP_in<;>intro)
  refine rF_use (print6_w l hl hu) ?_
  rintro _ H1 ⟨rfl, T, rfl⟩
  repeat' first|simp (disch:=first|omega|assumption|decide) only[go_sem,hm,hz,ht,hr_,hd91,hd93,wdl,bind_some_,map_some_,oneD_fold]|(apply ifP_in<;>intro)
  rw [List.append_assoc]
  exact List.prefix_append _ _
 ·rw [if_neg k3]
  repeat' first|simp (disch:=first|omega|assumption|decide) only[go_sem,hm,hz,ht,hr_,hco,hpl,hml,htk,Nat.le_refl,if_true,k1,k2,k3,k4,wdl,bind_some_,map_some_,oneD_fold]|(apply ifP_in<;>intro)
  exact hpx _
end Hs
end Go.Proofs
/- The plain law of hosts: there and back. -/
set_option linter.unusedVariables false
set_option linter.unusedSimpArgs false
namespace Go.Proofs
open Go.Lv
namespace Hs
def good (k : Int) (n : List UInt8) (v : Int) (l : List Int) (sp : Bool) : Prop :=
 l.length = 8 ∧ Ho.u16s l ∧ 0 ≤ v ∧ v < 4294967296 ∧ n.length ≤ 12000 ∧ (sp = true → k = 1 ∨ k = 2 ∨ k = 3) ∧ (sp = false → k = 0 ∨ k = 3 ∨ k = 4) ∧
 ((pr k n v l).length ≤ 4000 → prs (pr k n v l) sp = (hcells k n v l, 0) ∧ prs (pr k n v l) (decide (k = 1) || decide (k = 2)) = (hcells k n v l, 0))
end Hs
end Go.Proofs
/- Walks: may a host be. -/
set_option linter.unusedVariables false
set_option linter.unusedSimpArgs false
namespace Go.Proofs
open Go.Lv
namespace Hs
open Pu Ut Utf In
variable {H : Heap}
theorem stoodH : Tryz.prog.stoodInHeld 27 = false := by kernel_rfl
theorem eqArr_u : ∀ (l m : List Int), l.length = m.length → eqArr .u16 (l.map uA) (m.map uA) = some (decide (l = m)) := by
 intro l
 induction l with
 | nil => intro m h; cases m with
  | nil => rfl
  | cons _ _ => simp at h
 | cons a l ih =>
  intro m h
  cases m with
  | nil => simp at h
  | cons b m =>
   rw [List.map_cons, List.map_cons, eqArr, if_pos ⟨rfl, rfl⟩, ih m (by simpa using h)]
   simp only [Option.map_some, Option.some.injEq]
   rw [Bool.eq_iff_iff]
   simp
def eqH (k : Int) (n : List UInt8) (v : Int) (l : List Int) (k' : Int) (n' : List UInt8) (v' : Int) (l' : List Int) : Bool := decide (k = k' ∧ n = n' ∧ v = v' ∧ l = l')
end Hs
end Go.Proofs
/- Walks: machines as texts, the document's side. -/
set_option linter.unusedVariables false
set_option linter.unusedSimpArgs false
namespace Go.Proofs
open Go.Lv
namespace Hs
open Pu Ut Utf In
variable {H : Heap}
theorem wrap8 {n : Int} (h0 : 0 ≤ n) (h1 : n < 256) : IntKind.u8.wrap n = n := by
 unfold IntKind.wrap
 simp [IntKind.bits, IntKind.signed]
 omega
theorem one_b {n : Int} (h0 : 0 ≤ n) (h1 : n < 10) : AV.sl [.v (.int .u8 (48 + n))] = .sl ([Ho.ch n].map byteA) := by
 obtain ⟨m, rfl⟩ : ∃ m : Nat, n = m := ⟨n.toNat, by omega⟩
 have : ((Ho.ch (m : Int)).toNat : Int) = 48 + m := by
  unfold Ho.ch
  rw [Int.toNat_natCast, UInt8.toNat_ofNat']
  omega
 show _ = AV.sl [.v (.int .u8 ((Ho.ch (m : Int)).toNat : Int))]
 rw [this]
theorem conv_b {P : Program} {el : TypeId} {c : UInt8} : convD P (some (.slice el)) (some .string) (AV.sl [byteA c]) = byteD (P.underlying el) (some (AV.str [c])) := convD_bytes (l := [c])
theorem l1 {c : UInt8} : ([c] : List UInt8).length = 1 := rfl
theorem l2 {c d : UInt8} : ([c, d] : List UInt8).length = 2 := rfl
theorem dec1_w (n : Int) (h0 : 0 ≤ n) (h1 : n < 10) : WF Tryz.prog cfg 22 [.i n] H (fun r H' => r = .str [Ho.ch n] ∧ H' = H) := by
 have hm : ∀ d, cfg.muF 22 d = (false) := fun _ => rfl
 have hz : ∀ d, cfg.fzF 22 d = (false) := fun _ => rfl
 have ht : ∀ d, cfg.tkF 22 d = (false) := fun _ => rfl
 have hr_ : ∀ g, cfg.raw g = (g == 253 || g == 225 || g == 53) := fun _ => rfl
 refine rF_fn rfl rfl Tryz.func22 rfl ?_
 have hw := wrap8 (n := 48 + n) (by omega) (by omega)
 have hb := one_b h0 h1
 repeat' first|simp (disch:=first|omega|assumption|decide) only[go_sem,hm,hz,ht,hr_,hw,hb,conv_b,wdl,bind_some_,map_some_,oneD_fold]|(apply ifP_in<;>intro)
theorem dec2_w (n : Int) (h0 : 10 ≤ n) (h1 : n < 100) : WF Tryz.prog cfg 22 [.i n] H (fun r H' => r = .str [Ho.ch (n / 10), Ho.ch (n % 10)] ∧ H' = H) := by
 have hm : ∀ d, cfg.muF 22 d = (false) := fun _ => rfl
 have hz : ∀ d, cfg.fzF 22 d = (false) := fun _ => rfl
 have ht : ∀ d, cfg.tkF 22 d = (false) := fun _ => rfl
 have hr_ : ∀ g, cfg.raw g = (g == 253 || g == 225 || g == 53) := fun _ => rfl
 refine rF_fn rfl rfl Tryz.func22 rfl ?_
 repeat' first|simp (disch:=first|omega|assumption|decide) only[go_sem,hm,hz,ht,hr_,wdl,bind_some_,map_some_,oneD_fold]|(apply ifP_in<;>intro)
 refine rF_use (dec1_w (n / 10) (by omega) (by omega)) ?_
 rintro _ H1 ⟨rfl, rfl⟩
 have hw := wrap8 (n := 48 + n % 10) (by omega) (by omega)
 have hb := one_b (n := n % 10) (by omega) (by omega)
 have hl1 := @l1 (Ho.ch (n / 10))
 have hl2 := @l1 (Ho.ch (n % 10))
 repeat' first|simp (disch:=first|omega|assumption|decide) only[go_sem,hm,hz,ht,hr_,hw,hb,conv_b,wdl,bind_some_,map_some_,oneD_fold]|(apply ifP_in<;>intro)
 all_goals rfl
theorem dec3_w (n : Int) (h0 : 100 ≤ n) (h1 : n < 256) : WF Tryz.prog cfg 22 [.i n] H (fun r H' => r = .str [Ho.ch (n / 100), Ho.ch (n / 10 % 10), Ho.ch (n % 10)] ∧ H' = H) := by
 have hm : ∀ d, cfg.muF 22 d = (false) := fun _ => rfl
 have hz : ∀ d, cfg.fzF 22 d = (false) := fun _ => rfl
 have ht : ∀ d, cfg.tkF 22 d = (false) := fun _ => rfl
 have hr_ : ∀ g, cfg.raw g = (g == 253 || g == 225 || g == 53) := fun _ => rfl
 refine rF_fn rfl rfl Tryz.func22 rfl ?_
 repeat' first|simp (disch:=first|omega|assumption|decide) only[go_sem,hm,hz,ht,hr_,wdl,bind_some_,map_some_,oneD_fold]|(apply ifP_in<;>intro)
 refine rF_use (dec2_w (n / 10) (by omega) (by omega)) ?_
 rintro _ H1 ⟨rfl, rfl⟩
 have hw := wrap8 (n := 48 + n % 10) (by omega) (by omega)
 have hb := one_b (n := n % 10) (by omega) (by omega)
 have hl1 := @l2 (Ho.ch (n / 10 / 10)) (Ho.ch (n / 10 % 10))
 have hl2 := @l1 (Ho.ch (n % 10))
 repeat' first|simp (disch:=first|omega|assumption|decide) only[go_sem,hm,hz,ht,hr_,hw,hb,conv_b,wdl,bind_some_,map_some_,oneD_fold]|(apply ifP_in<;>intro)
 all_goals (rw [show n / 10 / 10 = n / 100 by omega]; rfl)
theorem dec_d3 (n : Int) (h0 : 0 ≤ n) (h1 : n < 256) : WF Tryz.prog cfg 22 [.i n] H (fun r H' => r = .str (Ho.d3 n) ∧ H' = H) := by
 unfold Ho.d3
 by_cases c1 : n < 10
 ·rw [if_pos c1]; exact dec1_w n h0 c1
 rw [if_neg c1]
 by_cases c2 : n < 100
 ·rw [if_pos c2]; exact dec2_w n (by omega) c2
 ·rw [if_neg c2]; exact dec3_w n (by omega) h1
theorem dec_e {n : Int} (h0 : 0 ≤ n) (h1 : n < 256) {Q : K (AV → Heap → Prop)} : @rF Tryz.prog cfg 22 [.i n] H Q = Q.v (.str (Ho.d3 n)) H := rF_eq (dec_d3 n h0 h1)
theorem print4_r (v : Int) (h0 : 0 ≤ v) (h1 : v < 4294967296) : WF Tryz.prog cfg 75 [.v (.int .u32 v)] H (fun r H' => r = .str (Ho.pr4 v) ∧ H' = H) := by
 have hm : ∀ d, cfg.muF 75 d = (false) := fun _ => rfl
 have hz : ∀ d, cfg.fzF 75 d = (false) := fun _ => rfl
 have ht : ∀ d, cfg.tkF 75 d = (false) := fun _ => rfl
 have hr_ : ∀ g, cfg.raw g = (g == 253 || g == 225 || g == 53) := fun _ => rfl
 refine rF_fn rfl rfl Tryz.func75 rfl ?_
 have hp : Ho.pr4 v = Ho.d3 (v / 16777216) ++ [46] ++ Ho.d3 (v / 65536 % 256) ++ [46] ++ Ho.d3 (v / 256 % 256) ++ [46] ++ Ho.d3 (v % 256) := by
  simp [Ho.pr4, Ho.q4, Sp.join]
 rw [hp]
 have e1 := Ho.d3_len (v / 16777216)
 have e2 := Ho.d3_len (v / 65536 % 256)
 have e3 := Ho.d3_len (v / 256 % 256)
 have e4 := Ho.d3_len (v % 256)
 have q1 : (Ho.d3 (v / 16777216) ++ [46]).length ≤ 100 := by simp; omega
 have q2 : (Ho.d3 (v / 16777216) ++ [46] ++ Ho.d3 (v / 65536 % 256)).length ≤ 100 := by simp; omega
 have q3 : (Ho.d3 (v / 16777216) ++ [46] ++ Ho.d3 (v / 65536 % 256) ++ [46]).length ≤ 100 := by simp; omega
 have q4 : (Ho.d3 (v / 16777216) ++ [46] ++ Ho.d3 (v / 65536 % 256) ++ [46] ++ Ho.d3 (v / 256 % 256)).length ≤ 100 := by simp; omega
 have q5 : (Ho.d3 (v / 16777216) ++ [46] ++ Ho.d3 (v / 65536 % 256) ++ [46] ++ Ho.d3 (v / 256 % 256) ++ [46]).length ≤ 100 := by simp; omega
 have q6 := @l1 46
 have s24 : (2 : Int) ^ (24 : Int).toNat = 16777216 := by decide
 have s16 : (2 : Int) ^ (16 : Int).toNat = 65536 := by decide
 have s8 : (2 : Int) ^ (8 : Int).toNat = 256 := by decide
 repeat' first|simp (disch:=first|omega|assumption|decide) only[go_sem,hm,hz,ht,hr_,dec_e,and255u,s24,s16,s8,wdl,bind_some_,map_some_,oneD_fold]|(apply ifP_in<;>intro)
end Hs
end Go.Proofs
/- Walks: eight pieces as a text, the document's side. -/
set_option linter.unusedVariables false
set_option linter.unusedSimpArgs false
namespace Go.Proofs
open Go.Lv
namespace Hs
open Pu Ut Utf In
variable {H : Heap}
def hexs (bs : List UInt8) : List UInt8 := bs.flatMap fun c => [Ho.hd ((c.toNat : Int) / 16), Ho.hd ((c.toNat : Int) % 16)]
theorem hexs_take {bs : List UInt8} {i : Nat} (h : i < bs.length) : hexs (bs.take (i + 1)) = hexs (bs.take i) ++ [Ho.hd ((bs[i].toNat : Int) / 16), Ho.hd ((bs[i].toNat : Int) % 16)] := by
 unfold hexs
 rw [List.take_succ_eq_append_getElem h, List.flatMap_append]; simp
theorem hexs_len (bs : List UInt8) : (hexs bs).length = 2 * bs.length := by
 induction bs with
 | nil => rfl
 | cons c bs ih =>
  show ([_, _] ++ hexs bs).length = _
  rw [List.length_append, ih]; simp; omega
theorem and15b {a : Int} (h0 : 0 ≤ a) (h1 : a < 256) {P : Program} {xt : TypeId} : bin P .and xt (.v (.int .u8 a)) (.v (.int .u8 15)) = some (.v (.int .u8 (a % 16))) := by
 show some (AV.v (.int .u8 (IntKind.u8.wrap ((BitVec.ofInt 8 a &&& BitVec.ofInt 8 15).toNat : Int)))) = _
 have e : (BitVec.ofInt 8 a &&& BitVec.ofInt 8 15).toNat = a.toNat % 16 := by
  rw [BitVec.toNat_and]
  have e1 : (BitVec.ofInt 8 a).toNat = a.toNat := by simp [BitVec.toNat_ofInt]; omega
  have e2 : (BitVec.ofInt 8 15).toNat = 2 ^ 4 - 1 := by decide
  rw [e1, e2, Nat.and_two_pow_sub_one_eq_mod]
 rw [e, wrap8 (by omega) (by omega)]
 congr 3
 omega
theorem dgb {P : Program} {q : Int} (h0 : 0 ≤ q) (h1 : q < 16) : indexD P (some TypeDesc.string) (AV.str Ho.HEX) (.v (.int .u8 q)) = some (byteA (Ho.hd q)) := by
 obtain rfl | rfl | rfl | rfl | rfl | rfl | rfl | rfl | rfl | rfl | rfl | rfl | rfl | rfl | rfl | rfl : q = 0 ∨ q = 1 ∨ q = 2 ∨ q = 3 ∨ q = 4 ∨ q = 5 ∨ q = 6 ∨ q = 7 ∨ q = 8 ∨ q = 9 ∨ q = 10 ∨ q = 11 ∨ q = 12 ∨ q = 13 ∨ q = 14 ∨ q = 15 := by omega
 all_goals rfl
theorem two_b {c d : UInt8} : AV.sl [byteA c, byteA d] = .sl ([c, d].map byteA) := rfl
theorem hex_w (bs : List UInt8) (hbl : bs.length ≤ 1000) : WF Tryz.prog cfg 176 [.sl (bs.map byteA)] H (fun r H' => r = .str (hexs bs) ∧ H' = H) := by
 have hm : ∀ d, cfg.muF 176 d = (false) := fun _ => rfl
 have hz : ∀ d, cfg.fzF 176 d = (false) := fun _ => rfl
 have ht : ∀ d, cfg.tkF 176 d = (false) := fun _ => rfl
 have hr_ : ∀ g, cfg.raw g = (g == 253 || g == 225 || g == 53) := fun _ => rfl
 refine rF_fn rfl rfl Tryz.func176 rfl ?_
 repeat' first|simp (disch:=first|omega|assumption|decide) only[go_sem,hm,hz,ht,hr_,wdl,bind_some_,map_some_,oneD_fold]|(apply ifP_in<;>intro)
 refine rL_loop (σ := Nat) (fun i e K => K = H ∧ e 0 = .sl (bs.map byteA) ∧ e 3 = .str Ho.HEX ∧ e 5 = .i i ∧ e 4 = .sl ((hexs (bs.take i)).map byteA) ∧ i ≤ bs.length) (fun i => bs.length - i) 0 ?_ ?_
 ·refine ⟨rfl, ?_, ?_, ?_, ?_, by omega⟩
  all_goals first | (simp (disch := first | assumption | omega) only [go_sem]; done) | (simp (disch := first | assumption | omega) only [go_sem]; rfl)
 ·rintro i e K9 ⟨rfl, g0, g3, g5, g4, i1⟩
  by_cases hi : i < bs.length
  ·have hst := hexs_take hi
   have hix := ix_at hi
   have hhl := hexs_len (bs.take i)
   rw [List.length_take] at hhl
   have hc := bs[i].toNat_lt
   generalize bs[i] = c at *
   have s4 : (2 : Int) ^ (4 : Int).toNat = 16 := by decide
   have hl2 := @l2 (Ho.hd ((c.toNat : Int) / 16)) (Ho.hd ((c.toNat : Int) % 16))
   repeat' first|simp (disch:=first|omega|assumption|decide) only[go_sem,hm,hz,ht,hr_,g0,g3,g5,g4,hix,s4,and15b,dgb,two_b,wdl,bind_some_,map_some_,oneD_fold]|(apply ifP_in<;>intro)
   exact ⟨i + 1, ⟨rfl, by rw [hst], by omega⟩, by omega⟩
  ·obtain rfl : i = bs.length := by omega
   rw [List.take_length] at g4
   have hhl := hexs_len bs
   repeat' first|simp (disch:=first|omega|assumption|decide) only[go_sem,hm,hz,ht,hr_,g0,g3,g5,g4,wdl,bind_some_,map_some_,oneD_fold]|(apply ifP_in<;>intro)
theorem hd0 {q : Int} (h0 : 0 ≤ q) (h1 : q < 16) : ((Ho.hd q).toNat : Int) = 48 ↔ q = 0 := by
 obtain rfl | rfl | rfl | rfl | rfl | rfl | rfl | rfl | rfl | rfl | rfl | rfl | rfl | rfl | rfl | rfl : q = 0 ∨ q = 1 ∨ q = 2 ∨ q = 3 ∨ q = 4 ∨ q = 5 ∨ q = 6 ∨ q = 7 ∨ q = 8 ∨ q = 9 ∨ q = 10 ∨ q = 11 ∨ q = 12 ∨ q = 13 ∨ q = 14 ∨ q = 15 := by omega
 all_goals decide
theorem wrap8m (v : Int) : IntKind.u8.wrap v = v % 256 := by
 unfold IntKind.wrap
 simp [IntKind.bits, IntKind.signed]
def s4 (v : Int) : List UInt8 := [Ho.hd (v / 4096), Ho.hd (v / 256 % 16), Ho.hd (v / 16 % 16), Ho.hd (v % 16)]
theorem piece_arg {v : Int} (h0 : 0 ≤ v) (h1 : v < 65536) : AV.sl [.v (.int .u8 (v / 256)), .v (.int .u8 (v % 256))] = .sl ([UInt8.ofNat (v / 256).toNat, UInt8.ofNat (v % 256).toNat].map byteA) ∧ hexs [UInt8.ofNat (v / 256).toNat, UInt8.ofNat (v % 256).toNat] = s4 v := by
 have e1 : ((UInt8.ofNat (v / 256).toNat).toNat : Int) = v / 256 := by rw [UInt8.toNat_ofNat']; omega
 have e2 : ((UInt8.ofNat (v % 256).toNat).toNat : Int) = v % 256 := by rw [UInt8.toNat_ofNat']; omega
 constructor
 ·show _ = AV.sl [.v (.int .u8 ((UInt8.ofNat (v / 256).toNat).toNat : Int)), .v (.int .u8 ((UInt8.ofNat (v % 256).toNat).toNat : Int))]
  rw [e1, e2]
 ·show [_, _, _, _] = [_, _, _, _]
  rw [e1, e2, show v / 256 / 16 = v / 4096 by omega, show v % 256 / 16 = v / 16 % 16 by omega, show v % 256 % 16 = v % 16 by omega]
theorem piece_w (v : Int) (h0 : 0 ≤ v) (h1 : v < 65536) : WF Tryz.prog cfg 118 [.v (.int .u16 v)] H (fun r H' => r = .str (Ho.hx v) ∧ H' = H) := by
 have hm : ∀ d, cfg.muF 118 d = (false) := fun _ => rfl
 have hz : ∀ d, cfg.fzF 118 d = (false) := fun _ => rfl
 have ht : ∀ d, cfg.tkF 118 d = (false) := fun _ => rfl
 have hr_ : ∀ g, cfg.raw g = (g == 253 || g == 225 || g == 53) := fun _ => rfl
 refine rF_fn rfl rfl Tryz.func118 rfl ?_
 obtain ⟨p1, p2⟩ := piece_arg h0 h1
 have s8 : (2 : Int) ^ (8 : Int).toNat = 256 := by decide
 have hm2 : v / 256 % 256 = v / 256 := by omega
 repeat' first|simp (disch:=first|omega|assumption|decide) only[go_sem,hm,hz,ht,hr_,wrap8m,s8,hm2,wdl,bind_some_,map_some_,oneD_fold]|(apply ifP_in<;>intro)
 rw [p1]
 refine rF_use (hex_w _ (by simp)) ?_
 rintro _ H1 ⟨rfl, rfl⟩
 rw [p2]
 repeat' first|simp (disch:=first|omega|assumption|decide) only[go_sem,hm,hz,ht,hr_,wdl,bind_some_,map_some_,oneD_fold]|(apply ifP_in<;>intro)
 refine rL_loop (σ := Nat) (fun k e K => K = H1 ∧ e 3 = .str ((s4 v).drop k) ∧ k ≤ 3 ∧ (1 ≤ k → v < 4096) ∧ (2 ≤ k → v < 256) ∧ (3 ≤ k → v < 16)) (fun k => 3 - k) 0 ?_ ?_
 ·refine ⟨rfl, ?_, by omega, by omega, by omega, by omega⟩
  all_goals first | (simp (disch := first | assumption | omega) only [go_sem]; done) | (simp (disch := first | assumption | omega) only [go_sem]; rfl)
 ·rintro k e K9 ⟨rfl, g3, i1, i2, i3, i4⟩
  obtain rfl | rfl | rfl | rfl : k = 0 ∨ k = 1 ∨ k = 2 ∨ k = 3 := by omega
  ·have g3 : e 3 = .str [Ho.hd (v / 4096), Ho.hd (v / 256 % 16), Ho.hd (v / 16 % 16), Ho.hd (v % 16)] := g3
   have hl4 : ([Ho.hd (v / 4096), Ho.hd (v / 256 % 16), Ho.hd (v / 16 % 16), Ho.hd (v % 16)] : List UInt8).length = 4 := rfl
   have hix0 : ix [Ho.hd (v / 4096), Ho.hd (v / 256 % 16), Ho.hd (v / 16 % 16), Ho.hd (v % 16)] 0 = Ho.hd (v / 4096) := rfl
   have hz0 := hd0 (q := v / 4096) (by omega) (by omega)
   repeat' first|simp (disch:=first|omega|assumption|decide) only[go_sem,hm,hz,ht,hr_,g3,hix0,hz0,wdl,bind_some_,map_some_,oneD_fold]|(apply ifP_in<;>intro)
   ·exact ⟨1, ⟨rfl, by omega, by omega, by omega, by omega⟩, by omega⟩
   ·rw [hx_dg h0 h1, if_neg (by omega), if_neg (by omega), if_neg (by omega)]
    show AV.str _ = AV.str [Ho.hd (v / 4096 % 16), Ho.hd (v / 256 % 16), Ho.hd (v / 16 % 16), Ho.hd (v % 16)]
    rw [show v / 4096 % 16 = v / 4096 by omega]
  ·have g3 : e 3 = .str [Ho.hd (v / 256 % 16), Ho.hd (v / 16 % 16), Ho.hd (v % 16)] := g3
   have hl4 : ([Ho.hd (v / 256 % 16), Ho.hd (v / 16 % 16), Ho.hd (v % 16)] : List UInt8).length = 3 := rfl
   have hix0 : ix [Ho.hd (v / 256 % 16), Ho.hd (v / 16 % 16), Ho.hd (v % 16)] 0 = Ho.hd (v / 256 % 16) := rfl
   have hz0 := hd0 (q := v / 256 % 16) (by omega) (by omega)
   repeat' first|simp (disch:=first|omega|assumption|decide) only[go_sem,hm,hz,ht,hr_,g3,hix0,hz0,wdl,bind_some_,map_some_,oneD_fold]|(apply ifP_in<;>intro)
   ·exact ⟨2, ⟨rfl, by omega, by omega, by omega, by omega⟩, by omega⟩
   ·rw [hx_dg h0 h1, if_neg (by omega), if_neg (by omega), if_pos (by omega)]
    rfl
  ·have g3 : e 3 = .str [Ho.hd (v / 16 % 16), Ho.hd (v % 16)] := g3
   have hl4 : ([Ho.hd (v / 16 % 16), Ho.hd (v % 16)] : List UInt8).length = 2 := rfl
   have hix0 : ix [Ho.hd (v / 16 % 16), Ho.hd (v % 16)] 0 = Ho.hd (v / 16 % 16) := rfl
   have hz0 := hd0 (q := v / 16 % 16) (by omega) (by omega)
   repeat' first|simp (disch:=first|omega|assumption|decide) only[go_sem,hm,hz,ht,hr_,g3,hix0,hz0,wdl,bind_some_,map_some_,oneD_fold]|(apply ifP_in<;>intro)
   ·exact ⟨3, ⟨rfl, by omega, by omega, by omega, by omega⟩, by omega⟩
   ·rw [hx_dg h0 h1, if_neg (by omega), if_pos (by omega)]
    rfl
  ·have g3 : e 3 = .str [Ho.hd (v % 16)] := g3
   have hl4 : ([Ho.hd (v % 16)] : List UInt8).length = 1 := rfl
   repeat' first|simp (disch:=first|omega|assumption|decide) only[go_sem,hm,hz,ht,hr_,g3,wdl,bind_some_,map_some_,oneD_fold]|(apply ifP_in<;>intro)
   rw [hx_dg h0 h1, if_pos (by omega)]
   rfl
theorem piece_e {v : Int} (h0 : 0 ≤ v) (h1 : v < 65536) {Q : K (AV → Heap → Prop)} : @rF Tryz.prog cfg 118 [.v (.int .u16 v)] H Q = Q.v (.str (Ho.hx v)) H := rF_eq (piece_w v h0 h1)
end Hs
end Go.Proofs
set_option linter.unusedVariables false
set_option linter.unusedSimpArgs false
namespace Ho
open Go
def runZ : List Int → Nat
 | [] => 0
 | x :: r => if x = 0 then runZ r + 1 else 0
theorem runZ_le (l : List Int) : runZ l ≤ l.length := by
 induction l with
 | nil => simp [runZ]
 | cons x r ih => unfold runZ; split <;> simp <;> omega
theorem runZ_lt : ∀ {l : List Int} {n : Nat}, n < runZ l → l.getD n 0 = 0 := by
 intro l
 induction l with
 | nil => intro n h; simp [runZ] at h
 | cons x r ih =>
  intro n h
  unfold runZ at h
  split at h
  ·cases n with
   | zero => simpa using by assumption
   | succ n => simpa using ih (n := n) (by omega)
  ·omega
theorem runZ_end : ∀ (l : List Int), runZ l < l.length → l.getD (runZ l) 0 ≠ 0 := by
 intro l
 induction l with
 | nil => intro h; simp [runZ] at h
 | cons x r ih =>
  intro h
  unfold runZ at h ⊢
  split
  ·rename_i hx
   rw [if_pos hx] at h
   simpa using ih (by simpa using h)
  ·rename_i hx; simpa using hx
def rstep (l : List Int) (s : Nat × Nat) (i : Nat) : Nat × Nat := if s.2 < runZ (l.drop i) then (i, runZ (l.drop i)) else s
def rs (l : List Int) (i : Nat) : Nat × Nat := (List.range i).foldl (rstep l) (8, 1)
theorem rs_succ (l : List Int) (i : Nat) : rs l (i + 1) = rstep l (rs l i) i := by
 unfold rs
 rw [List.range_succ, List.foldl_append]; rfl
def runB : List Bool → Nat
 | [] => 0
 | x :: r => if x then runB r + 1 else 0
def isz (x : Int) : Bool := decide (x = 0)
theorem runZ_B (l : List Int) : runZ l = runB (l.map isz) := by
 induction l with
 | nil => rfl
 | cons x r ih =>
  unfold runZ runB
  simp only [List.map_cons]
  rw [ih]
  by_cases h : x = 0
  ·rw [if_pos h]; simp [isz, h]
  ·rw [if_neg h]; simp [isz, h]
def rsB (b : List Bool) (i : Nat) : Nat × Nat := (List.range i).foldl (fun s i => if s.2 < runB (b.drop i) then (i, runB (b.drop i)) else s) (8, 1)
theorem rs_B (l : List Int) (i : Nat) : rs l i = rsB (l.map isz) i := by
 unfold rs rsB
 congr 1
 funext s i
 unfold rstep
 rw [runZ_B, List.map_drop]
def zstepB (x : Bool) (s : Int × Int × Int × Int) : Int × Int × Int × Int :=
 let n := if x then s.2.2.1 + 1 else 0
 if s.2.1 < n then (s.2.2.2 + 1 - n, n, n, s.2.2.2 + 1) else (s.1, s.2.1, n, s.2.2.2 + 1)
theorem zf_B (l : List Int) : zf l = (l.map isz).foldl (fun s x => zstepB x s) (0, 0, 0, 0) := by
 unfold zf
 rw [List.foldl_map]
 congr 1
 funext s x
 unfold zstep zstepB isz
 by_cases h : x = 0 <;> simp [h]
def agree (b : List Bool) : Bool :=
 let z := b.foldl (fun s x => zstepB x s) (0, 0, 0, 0)
 let r := rsB b 8
 if z.2.1 < 2 then decide (r = (8, 1)) else decide ((r.1 : Int) = z.1 ∧ (r.2 : Int) = z.2.1)
theorem agree_all : ∀ a b c d e f g h : Bool, agree [a, b, c, d, e, f, g, h] = true := by decide +kernel
theorem rs_zr {l : List Int} (h8 : l.length = 8) : ((zr l).2 < 2 → rs l 8 = (8, 1)) ∧ (¬ (zr l).2 < 2 → ((rs l 8).1 : Int) = (zr l).1 ∧ ((rs l 8).2 : Int) = (zr l).2) := by
 have ha : agree (l.map isz) = true := by
  match l, h8 with
  | [a, b, c, d, e, f, g, h], _ => exact agree_all _ _ _ _ _ _ _ _
 unfold agree at ha
 simp only at ha
 rw [← rs_B, ← zf_B] at ha
 rw [zr_zf]
 simp only
 constructor
 ·intro h
  rw [if_pos h] at ha
  exact of_decide_eq_true ha
 ·intro h
  rw [if_neg h] at ha
  exact of_decide_eq_true ha
theorem tx6_snoc {l : List Int} {i : Nat} (h : i < l.length) : tx6 (l.take (i + 1)) = if i = 0 then hx l[i] else tx6 (l.take i) ++ [58] ++ hx l[i] := by
 unfold tx6
 rw [List.take_succ_eq_append_getElem h, List.map_append, List.map_cons, List.map_nil, Sp.join_snoc]
 by_cases h0 : i = 0
 ·subst h0; simp
 ·rw [if_neg h0, if_neg]
  intro he
  have := congrArg List.length he
  simp only [List.length_map, List.length_take, List.length_nil] at this
  omega
end Ho
/- Walks: eight pieces as a text, the document's side, the whole. -/
set_option linter.unusedVariables false
set_option linter.unusedSimpArgs false
namespace Go.Proofs
open Go.Lv
namespace Hs
open Pu Ut Utf In
variable {H : Heap}
theorem print6_r (l : List Int) (hl : l.length = 8) (hu : Ho.u16s l) : WF Tryz.prog cfg 76 [.agg (l.map uA)] H (fun r H' => r = .str (Ho.pr6 l) ∧ H <+: H') := by
 have hm : ∀ d, cfg.muF 76 d = (false) := fun _ => rfl
 have hz : ∀ d, cfg.fzF 76 d = (false) := fun _ => rfl
 have ht : ∀ d, cfg.tkF 76 d = (false) := fun _ => rfl
 have hr_ : ∀ g, cfg.raw g = (g == 253 || g == 225 || g == 53) := fun _ => rfl
 refine rF_fn rfl rfl Tryz.func76 rfl ?_
 have ho := one_u (vs := l)
 have hml : (l.map uA).length = 8 := by simp [hl]
 repeat' first|simp (disch:=first|omega|assumption|decide) only[go_sem,hm,hz,ht,hr_,ho,wdl,bind_some_,map_some_,oneD_fold]|(apply ifP_in<;>intro)
 have hj : (H ++ [l.map uA])[H.length]? = some (l.map uA) := by simp
 refine rL_loop (σ := Nat) (fun i e H9 => H9 = H ++ [l.map uA] ∧ e 1 = .ptr H.length 0 ∧ e 5 = .i i ∧ e 3 = .i ((Ho.rs l i).1 : Nat) ∧ e 4 = .i ((Ho.rs l i).2 : Nat) ∧ i ≤ 8) (fun i => 8 - i) 0 ?_ ?_
 ·refine ⟨rfl, ?_, ?_, ?_, ?_, by omega⟩
  all_goals first | (simp (disch := first | assumption | omega) only [go_sem]; done) | (simp (disch := first | assumption | omega) only [go_sem]; rfl)
 ·rintro i e H9 ⟨rfl, g1, g5, g3, g4, i1⟩
  by_cases hi : i < 8
  ·repeat' first|simp (disch:=first|omega|assumption|decide) only[go_sem,hm,hz,ht,hr_,g1,g5,g3,g4,wdl,bind_some_,map_some_,oneD_fold]|(apply ifP_in<;>intro)
   have hle := Ho.runZ_le (l.drop i)
   rw [List.length_drop] at hle
   have hst := Ho.rs_succ l i
   refine rL_loop (σ := Nat) (fun n e2 H9 => H9 = H ++ [l.map uA] ∧ e2 1 = .ptr H.length 0 ∧ e2 5 = .i i ∧ e2 3 = .i ((Ho.rs l i).1 : Nat) ∧ e2 4 = .i ((Ho.rs l i).2 : Nat) ∧ e2 6 = .i n ∧ n ≤ Ho.runZ (l.drop i)) (fun n => 8 - n) 0 ?_ ?_
   ·refine ⟨rfl, ?_, ?_, ?_, ?_, ?_, by omega⟩
    all_goals (simp (disch := first | assumption | omega) only [go_sem])
    all_goals first | exact g1 | exact g5 | exact g3 | exact g4 | rfl
   ·rintro n e2 H9 ⟨rfl, k1, k5, k3, k4, k6, j1⟩
    have hin : ((i : Int) + (n : Int)).toNat = i + n := by omega
    by_cases hb : i + n < 8
    ·have hpi : ∀ {s : Option Nat}, partD (some false) s (l.map uA) (i + n) = some (uA l[i + n]) := fun {s} => by rw [partD_map, xgE (by omega)]; rfl
     have hgd : (l.drop i).getD n 0 = l[i + n] := by
      rw [xgD, List.getElem?_drop, xgE (by omega)]; rfl
     by_cases hrun : n < Ho.runZ (l.drop i)
     ·have hz0 := Ho.runZ_lt hrun
      rw [hgd] at hz0
      rw [hz0] at hpi
      repeat' first|simp (disch:=first|omega|assumption|decide) only[go_sem,hm,hz,ht,hr_,k1,k5,k3,k4,k6,hj,hin,hpi,plainD_map,wdl,bind_some_,map_some_,oneD_fold]|(apply ifP_in<;>intro)
      exact ⟨n + 1, ⟨rfl, by omega⟩, by omega⟩
     ·obtain rfl : n = Ho.runZ (l.drop i) := by omega
      have hne := Ho.runZ_end (l.drop i) (by simp; omega)
      rw [hgd] at hne
      have hneF := eq_false hne
      unfold Ho.rstep at hst
      repeat' first|simp (disch:=first|omega|assumption|decide) only[go_sem,hm,hz,ht,hr_,k1,k5,k3,k4,k6,hj,hin,hpi,plainD_map,hneF,wdl,bind_some_,map_some_,oneD_fold]|(apply ifP_in<;>intro)
      ·rw [if_pos (by omega)] at hst
       exact ⟨i + 1, ⟨rfl, by rw [hst], by rw [hst], by omega⟩, by omega⟩
      ·rw [if_neg (by omega)] at hst
       exact ⟨i + 1, ⟨rfl, by rw [hst], by rw [hst], by omega⟩, by omega⟩
    ·obtain rfl : n = Ho.runZ (l.drop i) := by omega
     unfold Ho.rstep at hst
     repeat' first|simp (disch:=first|omega|assumption|decide) only[go_sem,hm,hz,ht,hr_,k1,k5,k3,k4,k6,hj,hin,plainD_map,wdl,bind_some_,map_some_,oneD_fold]|(apply ifP_in<;>intro)
     ·rw [if_pos (by omega)] at hst
      exact ⟨i + 1, ⟨rfl, by rw [hst], by rw [hst], by omega⟩, by omega⟩
     ·rw [if_neg (by omega)] at hst
      exact ⟨i + 1, ⟨rfl, by rw [hst], by rw [hst], by omega⟩, by omega⟩
  ·obtain rfl : i = 8 := by omega
   obtain ⟨r1, r2⟩ := Ho.rs_zr hl
   obtain ⟨z1, z2, z3, z4⟩ := Ho.zr_ok l
   have hp : Ho.pr6 l = if (Ho.zr l).2 < 2 then Ho.tx6 l else Ho.tx6 (l.take (Ho.zr l).1.toNat) ++ Ho.DC ++ Ho.tx6 (l.drop ((Ho.zr l).1 + (Ho.zr l).2).toNat) := rfl
   obtain ⟨A, B, hA, hB, hB8, hA8, hAB, hpr⟩ : ∃ A B : Nat, Ho.rs l 8 = (A, B) ∧ 1 ≤ B ∧ B ≤ 8 ∧ A ≤ 8 ∧ (A = 8 ∨ A + B ≤ 8) ∧ Ho.pr6 l = if A = 8 then Ho.tx6 l else Ho.tx6 (l.take A) ++ Ho.DC ++ Ho.tx6 (l.drop (A + B)) := by
    by_cases hz2 : (Ho.zr l).2 < 2
    ·exact ⟨8, 1, r1 hz2, by omega, by omega, by omega, .inl rfl, by rw [hp, if_pos hz2, if_pos rfl]⟩
    ·obtain ⟨q1, q2⟩ := r2 hz2
     refine ⟨(Ho.rs l 8).1, (Ho.rs l 8).2, rfl, by omega, by omega, by omega, .inr (by omega), ?_⟩
     rw [hp, if_neg hz2, if_neg (by omega), ← q1, ← q2, show (((Ho.rs l 8).1 : Int) + ((Ho.rs l 8).2 : Int)).toNat = (Ho.rs l 8).1 + (Ho.rs l 8).2 by omega, Int.toNat_natCast]
   rw [hA] at g3 g4
   simp only at g3 g4
   rw [hpr]
   clear hp hpr r1 r2 z1 z2 z3 z4 hA
   repeat' first|simp (disch:=first|omega|assumption|decide) only[go_sem,hm,hz,ht,hr_,g1,g5,g3,g4,wdl,bind_some_,map_some_,oneD_fold]|(apply ifP_in<;>intro)
   refine rL_loop (σ := Nat) (fun i e2 H9 => H9 = H ++ [l.map uA] ∧ e2 1 = .ptr H.length 0 ∧ e2 8 = .i i ∧ e2 3 = .i (A : Nat) ∧ e2 4 = .i (B : Nat) ∧ i ≤ 8 ∧ ((i ≤ A ∧ e2 7 = .str (Ho.tx6 (l.take i))) ∨ (A + B ≤ i ∧ A < 8 ∧ e2 7 = .str (Ho.tx6 (l.take A) ++ Ho.DC ++ Ho.tx6 ((l.drop (A + B)).take (i - (A + B))))))) (fun i => 8 - i) 0 ?_ ?_
   ·refine ⟨rfl, ?_, ?_, ?_, ?_, by omega, .inl ⟨by omega, ?_⟩⟩
    all_goals (simp (disch := first | assumption | omega) only [go_sem])
    all_goals first | exact g1 | exact g5 | exact g3 | exact g4 | rfl
   ·rintro i e2 H9 ⟨rfl, k1, k8, k3, k4, i1, hs⟩
    by_cases hi8 : i < 8
    ·have hpi : ∀ {s : Option Nat}, partD (some false) s (l.map uA) i = some (uA l[i]) := fun {s} => by rw [partD_map, xgE (by omega)]; rfl
     have hx := hu _ (List.getElem_mem (show i < l.length by omega))
     have hsn := Ho.tx6_snoc (l := l) (i := i) (by omega)
     have hl1 := Ho.hx_len l[i]
     have c58 : ([58] : List UInt8).length = 1 := rfl
     have c58b : ([58, 58] : List UInt8).length = 2 := rfl
     rcases hs with ⟨s1, k7⟩ | ⟨s1, s2, k7⟩
     ·have hl0 := Ho.tx6_len (l.take i)
      rw [List.length_take] at hl0
      have hl0b : (Ho.tx6 (l.take i) ++ [58]).length ≤ 100 := by simp; omega
      generalize hxx : l[i] = x at *
      by_cases hiA : i = A
      ·subst hiA
       have hT : ((i : Int) = (i : Int)) = True := by simp
       repeat' first|simp (disch:=first|omega|assumption|decide) only[go_sem,hm,hz,ht,hr_,k1,k8,k3,k4,k7,wdl,bind_some_,map_some_,oneD_fold]|(apply ifP_in<;>intro)
       refine ⟨i + B, ⟨?_, by omega, .inr ⟨by omega, by omega, ?_⟩⟩, by omega⟩
       ·show AV.v (.int .i64 _) = .v (.int .i64 _)
        congr 2
        omega
       ·rw [Nat.sub_self, List.take_zero]
        show AV.str _ = AV.str (_ ++ [])
        rw [List.append_nil]
        rfl
      ·have hF : ((i : Int) = (A : Int)) = False := by simp; omega
       have hF2 : ((i : Int) = (A : Int) + (B : Int)) = False := eq_false (by omega)
       by_cases h0 : i = 0
       ·subst h0
        rw [if_pos rfl] at hsn
        repeat' first|simp (disch:=first|omega|assumption|decide) only[go_sem,hm,hz,ht,hr_,k1,k8,k3,k4,k7,hF,hj,hpi,plainD_map,piece_e,wdl,bind_some_,map_some_,oneD_fold]|(apply ifP_in<;>intro)
        exact ⟨1, ⟨rfl, by omega, .inl ⟨by omega, by rw [hsn]; rfl⟩⟩, by omega⟩
       ·rw [if_neg h0] at hsn
        repeat' first|simp (disch:=first|omega|assumption|decide) only[go_sem,hm,hz,ht,hr_,k1,k8,k3,k4,k7,hF,hF2,hj,hpi,plainD_map,piece_e,wdl,bind_some_,map_some_,oneD_fold]|(apply ifP_in<;>intro)
        all_goals first | (exfalso; omega) | exact ⟨i + 1, ⟨rfl, by omega, .inl ⟨by omega, by rw [hsn]⟩⟩, by omega⟩
     ·have hl0 := Ho.tx6_len (l.take A)
      have hl2 := Ho.tx6_len ((l.drop (A + B)).take (i - (A + B)))
      rw [List.length_take] at hl0 hl2
      have hlD : (Ho.tx6 (l.take A) ++ Ho.DC ++ Ho.tx6 ((l.drop (A + B)).take (i - (A + B)))).length ≤ 100 := by simp [Ho.DC]; omega
      have hlD2 : (Ho.tx6 (l.take A) ++ Ho.DC ++ Ho.tx6 ((l.drop (A + B)).take (i - (A + B))) ++ [58]).length ≤ 101 := by rw [List.length_append]; simp only [List.length_cons, List.length_nil]; omega
      have hsn2 := Ho.tx6_snoc (l := l.drop (A + B)) (i := i - (A + B)) (by simp; omega)
      have hgd : (l.drop (A + B))[i - (A + B)]'(by simp; omega) = l[i] := by
       rw [List.getElem_drop]
       congr 1
       omega
      rw [hgd] at hsn2
      generalize hxx : l[i] = x at *
      have hF : ((i : Int) = (A : Int)) = False := by simp; omega
      have hi1 : i + 1 - (A + B) = i - (A + B) + 1 := by omega
      by_cases h0 : i = A + B
      ·have hT2 : ((i : Int) = (A : Int) + (B : Int)) = True := eq_true (by omega)
       rw [if_pos (by omega)] at hsn2
       have he0 : i - (A + B) = 0 := by omega
       rw [he0, List.take_zero] at k7
       have k7 : e2 7 = .str (Ho.tx6 (l.take A) ++ Ho.DC) := by rw [k7]; show AV.str (_ ++ []) = _; rw [List.append_nil]
       have hlD3 : (Ho.tx6 (l.take A) ++ Ho.DC).length ≤ 100 := by simp [Ho.DC]; omega
       repeat' first|simp (disch:=first|omega|assumption|decide) only[go_sem,hm,hz,ht,hr_,k1,k8,k3,k4,k7,hF,hT2,hj,hpi,plainD_map,piece_e,wdl,bind_some_,map_some_,oneD_fold]|(apply ifP_in<;>intro)
       exact ⟨i + 1, ⟨rfl, by omega, .inr ⟨by omega, by rw [hi1, hsn2]⟩⟩, by omega⟩
      ·have hF2 : ((i : Int) = (A : Int) + (B : Int)) = False := eq_false (by omega)
       rw [if_neg (by omega)] at hsn2
       repeat' first|simp (disch:=first|omega|assumption|decide) only[go_sem,hm,hz,ht,hr_,k1,k8,k3,k4,k7,hF,hF2,hj,hpi,plainD_map,piece_e,wdl,bind_some_,map_some_,oneD_fold]|(apply ifP_in<;>intro)
       exact ⟨i + 1, ⟨rfl, by omega, .inr ⟨by omega, by rw [hi1, hsn2]; simp only [List.append_assoc]⟩⟩, by omega⟩
    ·obtain rfl : i = 8 := by omega
     rcases hs with ⟨s1, k7⟩ | ⟨s1, s2, k7⟩
     ·obtain rfl : A = 8 := by omega
      repeat' first|simp (disch:=first|omega|assumption|decide) only[go_sem,hm,hz,ht,hr_,k1,k8,k3,k4,k7,wdl,bind_some_,map_some_,oneD_fold]|(apply ifP_in<;>intro)
      exact ⟨by rw [List.take_of_length_le (by omega)], List.prefix_append _ _⟩
     ·rw [if_neg (by omega)]
      have htd : (l.drop (A + B)).take (8 - (A + B)) = l.drop (A + B) := List.take_of_length_le (by simp; omega)
      rw [htd] at k7
      repeat' first|simp (disch:=first|omega|assumption|decide) only[go_sem,hm,hz,ht,hr_,k1,k8,k3,k4,k7,wdl,bind_some_,map_some_,oneD_fold]|(apply ifP_in<;>intro)
      exact List.prefix_append _ _
end Hs
end Go.Proofs
/- Walks: hosts as texts, may a host be: the document's side. -/
set_option linter.unusedVariables false
set_option linter.unusedSimpArgs false
namespace Go.Proofs
open Go.Lv
namespace Hs
open Pu Ut Utf In
variable {H : Heap}
theorem print_r (k : Int) (n : List UInt8) (v : Int) (l : List Int) (hl : l.length = 8) (hu : Ho.u16s l) (h0 : 0 ≤ v) (h1 : v < 4294967296) : WF Tryz.prog cfg 54 [.agg (hcells k n v l)] H (fun r H' => r = .str (pr k n v l) ∧ H <+: H') := by
 have hm : ∀ d, cfg.muF 54 d = (false) := fun _ => rfl
 have hz : ∀ d, cfg.fzF 54 d = (false) := fun _ => rfl
 have ht : ∀ d, cfg.tkF 54 d = (false) := fun _ => rfl
 have hr_ : ∀ g, cfg.raw g = (g == 253 || g == 225 || g == 53) := fun _ => rfl
 refine rF_fn rfl rfl Tryz.func54 rfl ?_
 have hco := hcells_one (k := k) (n := n) (v := v) (l := l)
 have hml : (l.map uA).length = 8 := by simp [hl]
 have htk : (l.map uA).take 8 = l.map uA := List.take_of_length_le (by omega)
 have hcd : hcells k n v l = .i k :: .str n :: .v (.int .u32 v) :: l.map uA := rfl
 have hp : pr k n v l = if k = 1 ∨ k = 4 then n else if k = 2 then Ho.pr4 v else if k = 3 then [91] ++ Ho.pr6 l ++ [93] else [] := rfl
 rw [hp]
 rw [hcd] at hco ⊢
 have hpl : ∀ {x : Option AV}, plainD (.i k :: .str n :: .v (.int .u32 v) :: l.map uA) x = x := fun {x} => by
  unfold plainD
  rw [if_pos (plainRow_one hco)]
 have hd91 : ([91] : List UInt8).length = 1 := rfl
 have hd93 : ([93] : List UInt8).length = 1 := rfl
 have hpx : ∀ x : List AV, H <+: H ++ [x] := fun x => List.prefix_append _ _
 by_cases k1 : k = 1
 ·subst k1
  rw [if_pos (.inl rfl)]
  repeat' first|simp (disch:=first|omega|assumption|decide) only[go_sem,hm,hz,ht,hr_,hco,hpl,hml,htk,Nat.le_refl,if_true,wdl,bind_some_,map_some_,oneD_fold]|(apply ifP_in<;>intro)
  exact hpx _
 by_cases k4 : k = 4
 ·subst k4
  rw [if_pos (.inr rfl)]
  repeat' first|simp (disch:=first|omega|assumption|decide) only[go_sem,hm,hz,ht,hr_,hco,hpl,hml,htk,Nat.le_refl,if_true,wdl,bind_some_,map_some_,oneD_fold]|(apply ifP_in<;>intro)
  exact hpx _
 rw [if_neg (by rintro (h | h); exact k1 h; exact k4 h)]
 by_cases k2 : k = 2
 ·subst k2
  rw [if_pos rfl]
  repeat' first|simp (disch:=first|omega|assumption|decide) only[go_sem,hm,hz,ht,hr_,hco,hpl,hml,htk,Nat.le_refl,if_true,wdl,bind_some_,map_some_,oneD_fold]|(apply ifP_in<;>intro)
  refine rF_use (print4_r v h0 h1) ?_
  rintro _ H1 ⟨rfl, rfl⟩
  repeat' first|simp (disch:=first|omega|assumption|decide) only[go_sem,hm,hz,ht,hr_,wdl,bind_some_,map_some_,oneD_fold]|(apply ifP_in<;>intro)
  exact hpx _
 rw [if_neg k2]
 by_cases k3 : k = 3
 ·subst k3
  rw [if_pos rfl]
  have hl6 := Ho.pr6_len l
  have hcc : ([91] ++ Ho.pr6 l).length ≤ 90 := by simp; omega
  repeat' first|simp (disch:=first|omega|assumption|decide) only[go_sem,hm,hz,ht,hr_,hco,hpl,hml,htk,Nat.le_refl,if_true,wdl,bind_some_,map_some_,oneD_fold]|(apply ifP_in<;>intro)
  refine rF_use (print6_r l hl hu) ?_
  rintro _ H1 ⟨rfl, T, rfl⟩
  repeat' first|simp (disch:=first|omega|assumption|decide) only[go_sem,hm,hz,ht,hr_,hd91,hd93,wdl,bind_some_,map_some_,oneD_fold]|(apply ifP_in<;>intro)
  rw [List.append_assoc]
  exact List.prefix_append _ _
 ·rw [if_neg k3]
  repeat' first|simp (disch:=first|omega|assumption|decide) only[go_sem,hm,hz,ht,hr_,hco,hpl,hml,htk,Nat.le_refl,if_true,k1,k2,k3,k4,wdl,bind_some_,map_some_,oneD_fold]|(apply ifP_in<;>intro)
  exact hpx _
theorem bin_arr {P : Program} {t e : TypeId} {l m : List Int} [h1 : UndIs P t (.array 8 e)] [h2 : UndIs P e (.int .u16)] [h3 : SizeIs P e 1] (hg : P.eqGuardType P.depth t = false) (hl : l.length = 8) (hm : m.length = 8) :
  bin P .eql t (.agg (l.map uA)) (.agg (m.map uA)) = some (.b (decide (l = m))) := by
 show binAgg P .eql t _ _ = _
 unfold binAgg
 rw [if_pos hg]
 simp only [h1.h]
 unfold eqA2 eqA1
 simp only [h1.h, h2.h]
 rw [if_pos ⟨h3.h, by simp [hl], by simp [hm]⟩, eqArr_u l m (by omega)]
 all_goals rfl
theorem host_r (k : Int) (n : List UInt8) (v : Int) (l : List Int) (k' : Int) (n' : List UInt8) (v' : Int) (l' : List Int) (hl : l.length = 8) (hl' : l'.length = 8) : WF Tryz.prog cfg 48 [.agg (hcells k n v l), .agg (hcells k' n' v' l')] H (fun r H' => r = .b (eqH k n v l k' n' v' l') ∧ H <+: H') := by
 have hm : ∀ d, cfg.muF 48 d = (false) := fun _ => rfl
 have hz : ∀ d, cfg.fzF 48 d = (false) := fun _ => rfl
 have ht : ∀ d, cfg.tkF 48 d = (false) := fun _ => rfl
 have hr_ : ∀ g, cfg.raw g = (g == 253 || g == 225 || g == 53) := fun _ => rfl
 refine rF_fn rfl rfl Tryz.func48 rfl ?_
 have hco := hcells_one (k := k) (n := n) (v := v) (l := l)
 have hco' := hcells_one (k := k') (n := n') (v := v') (l := l')
 have hg := guard25
 have hml : (l.map uA).length = 8 := by simp [hl]
 have hml' : (l'.map uA).length = 8 := by simp [hl']
 have htk : (l.map uA).take 8 = l.map uA := List.take_of_length_le (by omega)
 have htk' : (l'.map uA).take 8 = l'.map uA := List.take_of_length_le (by omega)
 have hcd : hcells k n v l = .i k :: .str n :: .v (.int .u32 v) :: l.map uA := rfl
 have hcd' : hcells k' n' v' l' = .i k' :: .str n' :: .v (.int .u32 v') :: l'.map uA := rfl
 generalize hcells k n v l = cs at *
 generalize hcells k' n' v' l' = cs' at *
 repeat' first|simp (disch:=first|omega|assumption|decide) only[go_sem,hm,hz,ht,hr_,hco,hco',g2a,g2b,wdl,bind_some_,map_some_,oneD_fold]|(apply ifP_in<;>intro)
 subst hcd
 subst hcd'
 have hpl : ∀ {x : Option AV}, plainD (.i k :: .str n :: .v (.int .u32 v) :: l.map uA) x = x := fun {x} => by
  unfold plainD
  rw [if_pos (plainRow_one hco)]
 have hpl' : ∀ {x : Option AV}, plainD (.i k' :: .str n' :: .v (.int .u32 v') :: l'.map uA) x = x := fun {x} => by
  unfold plainD
  rw [if_pos (plainRow_one hco')]
 have hpx : ∀ x y : List AV, H <+: H ++ [x] ++ [y] := fun x y => by rw [List.append_assoc]; exact List.prefix_append _ _
 clear hco hco'
 by_cases c1 : k = k'
 ·subst c1
  by_cases c2 : n = n'
  ·subst c2
   by_cases c3 : v = v'
   ·subst c3
    have he : eqH k n v l k n v l' = decide (l = l') := by unfold eqH; simp
    rw [he]
    repeat' first|simp (disch:=first|omega|assumption|decide) only[go_sem,hm,hz,ht,hr_,hpl,hpl',g2a,g2b,bin_arr,htk,hml,htk',hml',Nat.le_refl,if_true,wdl,bind_some_,map_some_,oneD_fold]|(apply ifP_in<;>intro)
    exact hpx _ _
   ·have he : eqH k n v l k n v' l' = false := by unfold eqH; simp [c3]
    rw [he]
    have cF := eq_false c3
    have cD : decide (v = v') = false := decide_eq_false c3
    repeat' first|simp (disch:=first|omega|assumption|decide) only[go_sem,hm,hz,ht,hr_,hpl,hpl',g2a,g2b,bin_arr,htk,hml,htk',hml',Nat.le_refl,if_true,cF,cD,wdl,bind_some_,map_some_,oneD_fold]|(apply ifP_in<;>intro)
    exact hpx _ _
  ·have he : eqH k n v l k n' v' l' = false := by unfold eqH; simp [c2]
   rw [he]
   have cF := eq_false c2
   have cD : decide (n = n') = false := decide_eq_false c2
   repeat' first|simp (disch:=first|omega|assumption|decide) only[go_sem,hm,hz,ht,hr_,hpl,hpl',g2a,g2b,bin_arr,htk,hml,htk',hml',Nat.le_refl,if_true,cF,cD,wdl,bind_some_,map_some_,oneD_fold]|(apply ifP_in<;>intro)
   exact hpx _ _
 ·have he : eqH k n v l k' n' v' l' = false := by unfold eqH; simp [c1]
  rw [he]
  have cF := eq_false c1
  have cD : decide (k = k') = false := decide_eq_false c1
  repeat' first|simp (disch:=first|omega|assumption|decide) only[go_sem,hm,hz,ht,hr_,hpl,hpl',g2a,g2b,bin_arr,htk,hml,htk',hml',Nat.le_refl,if_true,cF,cD,wdl,bind_some_,map_some_,oneD_fold]|(apply ifP_in<;>intro)
  exact hpx _ _
end Hs
end Go.Proofs
/- Walks: the law of hosts as texts. -/
set_option linter.unusedVariables false
set_option linter.unusedSimpArgs false
namespace Go.Proofs
open Go.Lv
namespace Hs
open Pu Ut Utf In
variable {H : Heap}
theorem opens_int (W : World) {HH : Type} {enc : TypeId × Value → HH} : Opens Tryz.prog W enc 3 (fun n : Int => [AV.v (.int .i64 n)]) (fun n => (Lit.int .i64 n).wf = true) := Opens.int Tryz.underlying3 (by kernel_rfl)
structure HostV where
 k : Int
 n : List UInt8
 v : Int
 l : List Int
def HostV.cells (h : HostV) : List AV := hcells h.k h.n h.v h.l
def HostV.ok (h : HostV) : Prop := h.n.length ≤ 140737488351232 ∧ (Lit.int .u32 h.v).wf = true ∧ h.l.length = 8 ∧ ∀ x ∈ h.l, (Lit.int .u16 x).wf = true
theorem opens_host {W : World} {HH : Type} {enc : TypeId × Value → HH} : Opens Tryz.prog W enc 27 HostV.cells HostV.ok :=
 Opens.iso (fun p : Int × List UInt8 × Int × List Int × Unit => (⟨p.1, p.2.1, p.2.2.1, p.2.2.2.1⟩ : HostV))
  (Opens.struct Tryz.underlying27 (tot := 11) (by kernel_rfl)
   (OpensF.cons (n0 := 1) (opens_int W) rfl (by kernel_rfl) (OpensF.cons (n0 := 1) (Opens.str Tryz.underlying9 (by kernel_rfl)) rfl (by kernel_rfl) (OpensF.cons (n0 := 1) (Opens.int Tryz.underlying23 (by kernel_rfl)) rfl (by kernel_rfl) (OpensF.cons (n0 := 8) (Opens.array Tryz.underlying25 Tryz.underlying24 (by kernel_rfl) (by kernel_rfl)) rfl (by kernel_rfl) OpensF.nil rfl) rfl) rfl) rfl))
  (fun p => by obtain ⟨a, b, c, d, e⟩ := p; simp [HostV.cells, hcells]) (fun p hp => ⟨hp.2.1, hp.2.2.1, hp.2.2.2.1.1, hp.2.2.2.1.2⟩)
end Hs
end Go.Proofs
