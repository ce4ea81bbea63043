/- Walks: hosts. -/
import Derived.Test.YtpbemfiedmfpiaaGreatDoorHoAllbx1
import Derived.Test.YtpbemfiedmfpiaaGreatDoorIdAllax0
import Derived.Lib.ItoaNum
import Derived.Test.YtpbemfiedmfpiaaGreatDoorLvAll17
set_option linter.unusedVariables false
set_option linter.unusedSimpArgs false
namespace Go.Proofs
open Go.Lv
namespace Hs
open Pu Ut Utf In
variable {H : Heap}
def hcells (k : Int) (n : List UInt8) (v : Int) (l : List Int) : List AV := [.i k, .str n, .v (.int .u32 v)] ++ l.map uA
def hz0 : List AV := hcells 0 [] 0 (Ho.zeros 8)
def brk (s : List UInt8) : List AV × Int :=
 if s.length < 2 ∨ s.getD (s.length - 1) 0 ≠ 93 then (hz0, 4)
 else if (Ho.p6 ((s.take (s.length - 1)).drop 1)).2 ≠ 0 then (hz0, (Ho.p6 ((s.take (s.length - 1)).drop 1)).2)
 else (hcells 3 [] 0 (Ho.p6 ((s.take (s.length - 1)).drop 1)).1, 0)
theorem hcells_len {k v : Int} {n : List UInt8} {l : List Int} (h : l.length = 8) : (hcells k n v l).length = 11 := by simp [hcells, h]
theorem hcells_one {k v : Int} {n : List UInt8} {l : List Int} : (hcells k n v l).all AV.one = true := by
 unfold hcells
 rw [List.all_append, one_u]; rfl
section
variable {P : Program} {xs ys : List AV} {t : TypeId} {T : Heap}
end
def dom (s : List UInt8) : List AV × Int :=
 if (Id.toASCII (Ho.lossy (Ho.dec s))).2 ≠ 0 then (hz0, (Id.toASCII (Ho.lossy (Ho.dec s))).2)
 else if (Id.toASCII (Ho.lossy (Ho.dec s))).1 = [] then (hz0, 6)
 else if bad (Id.toASCII (Ho.lossy (Ho.dec s))).1 = true ∨ lows (Id.toASCII (Ho.lossy (Ho.dec s))).1 = true then (hz0, 4)
 else if Ho.ends (Id.toASCII (Ho.lossy (Ho.dec s))).1 = false then (hcells 1 (Id.toASCII (Ho.lossy (Ho.dec s))).1 0 (Ho.zeros 8), 0)
 else if (Ho.p4 8589934592 (Id.toASCII (Ho.lossy (Ho.dec s))).1).2 ≠ 0 then (hz0, (Ho.p4 8589934592 (Id.toASCII (Ho.lossy (Ho.dec s))).1).2)
 else (hcells 2 [] (IntKind.u32.wrap (Ho.p4 8589934592 (Id.toASCII (Ho.lossy (Ho.dec s))).1).1) (Ho.zeros 8), 0)
end Hs
end Go.Proofs
/- Walks: a host, the program's side. -/
set_option linter.unusedVariables false
set_option linter.unusedSimpArgs false
namespace Go.Proofs
open Go.Lv
namespace Hs
open Pu Ut Utf In
variable {H : Heap}
def prs (s : List UInt8) (sp : Bool) : List AV × Int :=
 if 4000 < s.length then (hz0, 3) else if s.take 1 = [91] then brk s else if sp = true then dom s
 else if bad s = true then (hz0, 4) else if s = [] then (hz0, 0) else (hcells 4 (Ho.enc s) 0 (Ho.zeros 8), 0)
end Hs
end Go.Proofs
set_option linter.unusedVariables false
set_option linter.unusedSimpArgs false
namespace Ho
open Go
end Ho
/- Walks: a host, the document's side. -/
set_option linter.unusedVariables false
set_option linter.unusedSimpArgs false
namespace Go.Proofs
open Go.Lv
namespace Hs
open Pu Ut Utf In
variable {H : Heap}
end Hs
end Go.Proofs
set_option linter.unusedVariables false
set_option linter.unusedSimpArgs false
namespace Ho
open Go
def ch (k : Int) : UInt8 := UInt8.ofNat (48 + k.toNat)
def d3 (v : Int) : List UInt8 := if v < 10 then [ch v] else if v < 100 then [ch (v / 10), ch (v % 10)] else [ch (v / 100), ch (v / 10 % 10), ch (v % 10)]
def hd (k : Int) : UInt8 := HEX.getD k.toNat 0
def hx (v : Int) : List UInt8 := if v < 16 then [hd v] else if v < 256 then [hd (v / 16), hd (v % 16)] else if v < 4096 then [hd (v / 256), hd (v / 16 % 16), hd (v % 16)] else [hd (v / 4096), hd (v / 256 % 16), hd (v / 16 % 16), hd (v % 16)]
theorem hx_len (v : Int) : (hx v).length ≤ 4 := by unfold hx; repeat' split
                                                   all_goals simp
theorem d3_len (v : Int) : (d3 v).length ≤ 3 := by unfold d3; repeat' split
                                                   all_goals simp
def q4 (v : Int) : List Int := [v / 16777216, v / 65536 % 256, v / 256 % 256, v % 256]
def pr4 (v : Int) : List UInt8 := Sp.join [46] ((q4 v).map d3)
theorem pr4_len (v : Int) : (pr4 v).length ≤ 16 := by
 have := Sp.join_len_i [(46 : UInt8)] 3 ((q4 v).map d3) (fun x hx => by obtain ⟨y, _, rfl⟩ := List.mem_map.1 hx; exact d3_len y)
 simpa [q4, pr4] using this
def zstep (x : Int) (s : Int × Int × Int × Int) : Int × Int × Int × Int :=
 let n := if x = 0 then s.2.2.1 + 1 else 0
 if s.2.1 < n then (s.2.2.2 + 1 - n, n, n, s.2.2.2 + 1) else (s.1, s.2.1, n, s.2.2.2 + 1)
def zr (l : List Int) : Int × Int := let s := l.foldl (fun s x => zstep x s) (0, 0, 0, 0); (s.1, s.2.1)
def tx6 (l : List Int) : List UInt8 := Sp.join [58] (l.map hx)
def pr6 (l : List Int) : List UInt8 := if (zr l).2 < 2 then tx6 l else tx6 (l.take (zr l).1.toNat) ++ DC ++ tx6 (l.drop ((zr l).1 + (zr l).2).toNat)
end Ho
set_option linter.unusedVariables false
set_option linter.unusedSimpArgs false
namespace Ho
open Go
def zf (l : List Int) : Int × Int × Int × Int := l.foldl (fun s x => zstep x s) (0, 0, 0, 0)
theorem zr_zf (l : List Int) : zr l = ((zf l).1, (zf l).2.1) := rfl
def zinv (l : List Int) (s : Int × Int × Int × Int) : Prop :=
 s.2.2.2 = l.length ∧ 0 ≤ s.2.2.1 ∧ s.2.2.1 ≤ l.length ∧ (∀ j : Nat, (l.length : Int) - s.2.2.1 ≤ j → l.getD j 0 = 0) ∧ 0 ≤ s.1 ∧ 0 ≤ s.2.1 ∧ s.1 + s.2.1 ≤ l.length ∧ ∀ j : Nat, s.1 ≤ j → (j : Int) < s.1 + s.2.1 → l.getD j 0 = 0
theorem getD_snoc {l : List Int} {x : Int} {j : Nat} : (l ++ [x]).getD j 0 = if j = l.length then x else l.getD j 0 := by
 simp only [xgD, List.getElem?_append]
 split
 ·rw [if_neg (by omega)]
 ·split
  ·rename_i h; subst h; simp
  ·rw [List.getElem?_eq_none (by simp; omega), List.getElem?_eq_none (by omega)]
theorem zinv_step {l : List Int} {s : Int × Int × Int × Int} {x : Int} (h : zinv l s) : zinv (l ++ [x]) (zstep x s) := by
 obtain ⟨a, m, n, i⟩ := s
 obtain ⟨h1, h2, h3, h4, h5, h6, h7, h8⟩ := h
 simp only at h1 h2 h3 h4 h5 h6 h7 h8
 unfold zstep
 simp only
 by_cases hx : x = 0
 ·rw [if_pos hx]
  have k4 : ∀ j : Nat, ((l ++ [x]).length : Int) - (n + 1) ≤ j → (l ++ [x]).getD j 0 = 0 := by
   intro j hj
   rw [getD_snoc]
   split
   ·exact hx
   ·simp at hj; exact h4 j (by omega)
  have k8 : ∀ j : Nat, a ≤ j → (j : Int) < a + m → (l ++ [x]).getD j 0 = 0 := by
   intro j j1 j2
   rw [getD_snoc]
   split
   ·exact hx
   ·exact h8 j j1 j2
  split
  ·refine ⟨by simp; omega, by simp only; omega, by simp; omega, k4, by simp only; omega, by simp only; omega, by simp; omega, ?_⟩
   intro j j1 j2
   simp only at j1 j2
   exact k4 j (by simp; omega)
  ·exact ⟨by simp; omega, by simp only; omega, by simp; omega, k4, h5, h6, by simp; omega, k8⟩
 ·rw [if_neg hx, if_neg (by omega)]
  refine ⟨by simp; omega, by simp, by simp; omega, ?_, h5, h6, by simp; omega, ?_⟩
  ·intro j hj
   simp at hj
   rw [getD_snoc, if_neg (by omega)]
   exact h4 j (by omega)
  ·intro j j1 j2
   simp only at j1 j2
   rw [getD_snoc, if_neg (by omega)]
   exact h8 j j1 j2
theorem zf_take {l : List Int} {i : Nat} (h : i < l.length) : zf (l.take (i + 1)) = zstep l[i] (zf (l.take i)) := by
 unfold zf
 rw [List.take_succ_eq_append_getElem h, List.foldl_append]; rfl
theorem zf_inv (l : List Int) : ∀ i : Nat, i ≤ l.length → zinv (l.take i) (zf (l.take i)) := by
 intro i
 induction i with
 | zero => intro _; simp [zf, zinv]
 | succ i ih =>
  intro hi
  rw [zf_take (by omega), List.take_succ_eq_append_getElem (by omega)]
  exact zinv_step (ih (by omega))
theorem zr_ok (l : List Int) : 0 ≤ (zr l).1 ∧ 0 ≤ (zr l).2 ∧ (zr l).1 + (zr l).2 ≤ l.length ∧ ∀ j : Nat, (zr l).1 ≤ j → (j : Int) < (zr l).1 + (zr l).2 → l.getD j 0 = 0 := by
 have h := zf_inv l l.length (Nat.le_refl _)
 rw [List.take_length] at h
 obtain ⟨h1, h2, h3, h4, h5, h6, h7, h8⟩ := h
 exact ⟨h5, h6, h7, h8⟩
def u16s (l : List Int) : Prop := ∀ v ∈ l, 0 ≤ v ∧ v < 65536
theorem tx6_len (l : List Int) : (tx6 l).length ≤ l.length * 5 := by
 have := Sp.join_len_i [(58 : UInt8)] 4 (l.map hx) (fun x hx => by obtain ⟨y, _, rfl⟩ := List.mem_map.1 hx; exact hx_len y)
 simpa [tx6] using this
theorem pr6_len (l : List Int) : (pr6 l).length ≤ l.length * 10 + 2 := by
 unfold pr6
 have a := tx6_len l
 have b := tx6_len (l.take (zr l).1.toNat)
 have c := tx6_len (l.drop ((zr l).1 + (zr l).2).toNat)
 rw [List.length_take] at b
 rw [List.length_drop] at c
 split
 ·omega
 ·simp only [List.length_append, DC, List.length_cons, List.length_nil]; omega
end Ho
/- Walks: numbers as texts, the program's side. -/
set_option linter.unusedVariables false
set_option linter.unusedSimpArgs false
namespace Go.Proofs
open Go.Lv
namespace Hs
variable {H : Heap}
theorem tz_w : WF Tryz.prog cfg 206 [.v (.int .u64 16)] H (fun r H' => r = .i 4 ∧ H' = H) := WF.ext (g := fun args H => tzT H args) rfl (r := .i 4) (H' := H) rfl ⟨rfl, rfl⟩
theorem and_e {P : Program} {xt : TypeId} {a b : Int} : bin P .and xt (.i a) (.i b) = some (.i (IntKind.i64.wrap ((BitVec.ofInt 64 a &&& BitVec.ofInt 64 b).toNat : Int))) := rfl
theorem and_eu {P : Program} {xt : TypeId} {a b : Int} : bin P .and xt (.v (.int .u64 a)) (.v (.int .u64 b)) = some (.v (.int .u64 (IntKind.u64.wrap ((BitVec.ofInt 64 a &&& BitVec.ofInt 64 b).toNat : Int)))) := rfl
theorem and15u {a : Int} (h0 : 0 ≤ a) (h1 : a < 65536) : IntKind.u64.wrap ((BitVec.ofInt 64 a &&& BitVec.ofInt 64 15).toNat : Int) = a % 16 := by
 have e : (BitVec.ofInt 64 a &&& BitVec.ofInt 64 15).toNat = a.toNat % 16 := by
  rw [BitVec.toNat_and]
  have e1 : (BitVec.ofInt 64 a).toNat = a.toNat := by simp [BitVec.toNat_ofInt]; omega
  have e2 : (BitVec.ofInt 64 15).toNat = 2 ^ 4 - 1 := by decide
  rw [e1, e2, Nat.and_two_pow_sub_one_eq_mod]
 rw [e]
 unfold IntKind.wrap
 simp [IntKind.bits, IntKind.signed]
 omega
theorem pow_w : WF Tryz.prog cfg 205 [.i 16] H (fun r H' => r = .b true ∧ H' = H) := by
 have hm : ∀ d, cfg.muF 205 d = (false) := fun _ => rfl
 have hz : ∀ d, cfg.fzF 205 d = (false) := fun _ => rfl
 have ht : ∀ d, cfg.tkF 205 d = (false) := fun _ => rfl
 have hr_ : ∀ g, cfg.raw g = (g == 253 || g == 225 || g == 53) := fun _ => rfl
 refine rF_fn rfl rfl Tryz.func205 rfl ?_
 repeat' first|simp (disch:=first|omega|assumption|decide) only[go_sem,hm,hz,ht,hr_,and_e]|(apply ifP_in<;>intro)
 all_goals rfl
theorem tz_e {Q : K (AV → Heap → Prop)} : @rF Tryz.prog cfg 206 [.v (.int .u64 16)] H Q = Q.v (.i 4) H := rF_eq tz_w
theorem pow_e {Q : K (AV → Heap → Prop)} : @rF Tryz.prog cfg 205 [.i 16] H Q = Q.v (.b true) H := rF_eq pow_w
def dg (v : Int) : Nat → List UInt8
 | 0 => []
 | 1 => [Ho.hd (v % 16)]
 | 2 => [Ho.hd (v / 16 % 16), Ho.hd (v % 16)]
 | 3 => [Ho.hd (v / 256 % 16), Ho.hd (v / 16 % 16), Ho.hd (v % 16)]
 | _ => [Ho.hd (v / 4096 % 16), Ho.hd (v / 256 % 16), Ho.hd (v / 16 % 16), Ho.hd (v % 16)]
def dq (v : Int) : Nat → Int
 | 0 => v
 | 1 => v / 16
 | 2 => v / 256
 | _ => v / 4096
def row65 (v : Int) (k : Nat) : List AV := (List.replicate (65 - k) 0 ++ dg v k).map byteA
set_option maxRecDepth 100000 in
theorem z65 : zeroA Tryz.prog 158 = some (row65 0 0) := by
 unfold zeroA Tables.info?
 rw [Tryz.type158]; rfl
def D36 : List UInt8 := [48, 49, 50, 51, 52, 53, 54, 55, 56, 57, 97, 98, 99, 100, 101, 102, 103, 104, 105, 106, 107, 108, 109, 110, 111, 112, 113, 114, 115, 116, 117, 118, 119, 120, 121, 122]
theorem d36 : [48, 49, 50, 51, 52, 53, 54, 55, 56, 57, 97, 98, 99, 100, 101, 102, 103, 104, 105, 106, 107, 108, 109, 110, 111, 112, 113, 114, 115, 116, 117, 118, 119, 120, 121, 122] = D36 := rfl
theorem dgt {P : Program} {q : Int} (h0 : 0 ≤ q) (h1 : q < 16) : indexD P (some TypeDesc.string) (AV.str D36) (.v (.int .u64 q)) = some (.v (.int .u8 (Ho.hd q).toNat)) := by
 obtain rfl | rfl | rfl | rfl | rfl | rfl | rfl | rfl | rfl | rfl | rfl | rfl | rfl | rfl | rfl | rfl : q = 0 ∨ q = 1 ∨ q = 2 ∨ q = 3 ∨ q = 4 ∨ q = 5 ∨ q = 6 ∨ q = 7 ∨ q = 8 ∨ q = 9 ∨ q = 10 ∨ q = 11 ∨ q = 12 ∨ q = 13 ∨ q = 14 ∨ q = 15 := by omega
 all_goals rfl
theorem row65_len {v : Int} {k : Nat} (hk : k ≤ 4) : (row65 v k).length = 65 := by
 obtain rfl | rfl | rfl | rfl | rfl : k = 0 ∨ k = 1 ∨ k = 2 ∨ k = 3 ∨ k = 4 := by omega
 all_goals rfl
theorem st65 {l m : List UInt8} {off : Nat} {c : UInt8} (ho : off < l.length) (hm : (l.map byteA).set off (byteA c) = m.map byteA) : storeS (H ++ [l.map byteA]) H.length off (.v (.int .u8 c.toNat)) (l.map byteA) = some (H ++ [m.map byteA]) := by
 unfold storeS
 rw [if_pos (by simpa using ho), if_pos (plainRow_one (all_cell1 l))]
 rw [show (AV.v (.int .u8 c.toNat)) = byteA c from rfl, hm]
 simp
def by65 (v : Int) (k : Nat) : List UInt8 := List.replicate (65 - k) 0 ++ dg v k
theorem s0 {v : Int} : storeS (H ++ [row65 v 0]) H.length 64 (.v (.int .u8 (Ho.hd (v % 16)).toNat)) (row65 v 0) = some (H ++ [row65 v 1]) := st65 (l := by65 v 0) (m := by65 v 1) (by show 64 < 65; decide) rfl
theorem s1 {v : Int} : storeS (H ++ [row65 v 1]) H.length 63 (.v (.int .u8 (Ho.hd (v / 16 % 16)).toNat)) (row65 v 1) = some (H ++ [row65 v 2]) := st65 (l := by65 v 1) (m := by65 v 2) (by show 63 < 65; decide) rfl
theorem s2 {v : Int} : storeS (H ++ [row65 v 2]) H.length 62 (.v (.int .u8 (Ho.hd (v / 256 % 16)).toNat)) (row65 v 2) = some (H ++ [row65 v 3]) := st65 (l := by65 v 2) (m := by65 v 3) (by show 62 < 65; decide) rfl
theorem s3 {v : Int} : storeS (H ++ [row65 v 3]) H.length 61 (.v (.int .u8 (Ho.hd (v / 4096 % 16)).toNat)) (row65 v 3) = some (H ++ [row65 v 4]) := st65 (l := by65 v 3) (m := by65 v 4) (by show 61 < 65; decide) rfl
theorem hx_dg {v : Int} (h0 : 0 ≤ v) (h1 : v < 65536) : Ho.hx v = if v < 16 then dg v 1 else if v < 256 then dg v 2 else if v < 4096 then dg v 3 else dg v 4 := by
 have d1 : dg v 1 = [Ho.hd (v % 16)] := rfl
 have d2 : dg v 2 = [Ho.hd (v / 16 % 16), Ho.hd (v % 16)] := rfl
 have d3 : dg v 3 = [Ho.hd (v / 256 % 16), Ho.hd (v / 16 % 16), Ho.hd (v % 16)] := rfl
 have d4 : dg v 4 = [Ho.hd (v / 4096 % 16), Ho.hd (v / 256 % 16), Ho.hd (v / 16 % 16), Ho.hd (v % 16)] := rfl
 rw [d1, d2, d3, d4]
 unfold Ho.hx
 split
 ·rw [show v % 16 = v by omega]
 split
 ·rw [show v / 16 % 16 = v / 16 by omega]
 split
 ·rw [show v / 256 % 16 = v / 256 by omega]
 ·rw [show v / 4096 % 16 = v / 4096 by omega]
section
variable {P : Program} {t u e : TypeId}
theorem slice65 [h1 : UndIs P t (.array 65 e)] [h2 : SizeIs P e 1] [h3 : AggIs P e false] [h4 : SizeIs P t 65] {v : Int} {k : Nat} (hk : k ≤ 4) {o : Nat} (ho : o < 65) :
  sliceM P (H ++ [row65 v k]) t (.ptr H.length 0) (some (.v (.int .i64 (o : Int)))) none none = some (.mr H.length o (65 - o) 1 false, H ++ [row65 v k]) := by
 have hg : (H ++ [row65 v k])[H.length]? = some (row65 v k) := by simp
 unfold sliceM
 simp only [h1.h, h2.h, h3.h, hg, Option.bind_some]
 rw [if_pos ⟨by omega, plainRow_one (all_cell1 _), by rw [row65_len hk]; omega, by omega, h4.h⟩]
 have b1 : bound 65 none 65 = some 65 := rfl
 have b2 : bound 65 (some (.v (.int .i64 (o : Int)))) 0 = some o := by
  unfold bound
  simp only
  rw [if_pos ⟨by omega, by omega⟩]
  simp
 rw [b1]
 simp only [Option.bind_some]
 rw [b2]
 simp only [Option.bind_some]
 rw [if_pos ho]
 simp
theorem conv65 [h1 : UndIs P t (.slice e)] [h2 : UndIs P u .string] [h3 : UndIs P e (.int .u8)] {v : Int} {k : Nat} (hk : k ≤ 4) {o : Nat} (ho : 65 - k = o) :
  convM P (H ++ [row65 v k]) t u (.mr H.length o (65 - o) 1 false) = some (AV.str (dg v k), H ++ [row65 v k]) := by
 have hdl : (dg v k).length = k := by
  obtain rfl | rfl | rfl | rfl | rfl : k = 0 ∨ k = 1 ∨ k = 2 ∨ k = 3 ∨ k = 4 := by omega
  all_goals rfl
 have hg : (H ++ [row65 v k])[H.length]? = some (row65 v k) := by simp
 have hd : ((row65 v k).drop o).take (65 - o) = (dg v k).map byteA := by
  unfold row65
  rw [← List.map_drop, ← List.map_take, ← ho, List.drop_left' (by simp), List.take_of_length_le (by omega)]
 unfold convM
 simp only [h1.h, h2.h, h3.h, bytesM]
 by_cases h0 : 65 - o = 0
 ·rw [if_pos h0]
  have : k = 0 := by omega
  subst this; rfl
 ·rw [if_neg h0, hg, Option.bind_some, if_pos ⟨by rw [row65_len hk]; omega, (plainRow_spec (plainRow_one (all_cell1 _))).1⟩, hd, bytesOfA_map]
  rfl
end
theorem sl1 {v : Int} : sliceM Tryz.prog (H ++ [row65 v 1]) 158 (.ptr H.length 0) (some (.v (.int .i64 64))) none none = some (.mr H.length 64 1 1 false, H ++ [row65 v 1]) := slice65 (by omega) (o := 64) (by omega)
theorem cv1 {v : Int} : convM Tryz.prog (H ++ [row65 v 1]) 66 9 (.mr H.length 64 1 1 false) = some (AV.str (dg v 1), H ++ [row65 v 1]) := conv65 (by omega) (o := 64) (by omega)
theorem sl2 {v : Int} : sliceM Tryz.prog (H ++ [row65 v 2]) 158 (.ptr H.length 0) (some (.v (.int .i64 63))) none none = some (.mr H.length 63 2 1 false, H ++ [row65 v 2]) := slice65 (by omega) (o := 63) (by omega)
theorem cv2 {v : Int} : convM Tryz.prog (H ++ [row65 v 2]) 66 9 (.mr H.length 63 2 1 false) = some (AV.str (dg v 2), H ++ [row65 v 2]) := conv65 (by omega) (o := 63) (by omega)
theorem sl3 {v : Int} : sliceM Tryz.prog (H ++ [row65 v 3]) 158 (.ptr H.length 0) (some (.v (.int .i64 62))) none none = some (.mr H.length 62 3 1 false, H ++ [row65 v 3]) := slice65 (by omega) (o := 62) (by omega)
theorem cv3 {v : Int} : convM Tryz.prog (H ++ [row65 v 3]) 66 9 (.mr H.length 62 3 1 false) = some (AV.str (dg v 3), H ++ [row65 v 3]) := conv65 (by omega) (o := 62) (by omega)
theorem sl4 {v : Int} : sliceM Tryz.prog (H ++ [row65 v 4]) 158 (.ptr H.length 0) (some (.v (.int .i64 61))) none none = some (.mr H.length 61 4 1 false, H ++ [row65 v 4]) := slice65 (by omega) (o := 61) (by omega)
theorem cv4 {v : Int} : convM Tryz.prog (H ++ [row65 v 4]) 66 9 (.mr H.length 61 4 1 false) = some (AV.str (dg v 4), H ++ [row65 v 4]) := conv65 (by omega) (o := 61) (by omega)
theorem bits_w (v : Int) (h0 : 0 ≤ v) (h1 : v < 65536) : WF Tryz.prog cfg 180 [.sl [], .v (.int .u64 v), .i 16, .b false, .b false] H (fun r H' => ∃ d, r = .tup [d, .str (Ho.hx v)] ∧ H <+: H') := by
 have hm : ∀ d, cfg.muF 180 d = (d == 100 || d == 101) := fun _ => rfl
 have hz : ∀ d, cfg.fzF 180 d = (false) := fun _ => rfl
 have ht : ∀ d, cfg.tkF 180 d = (d == 98) := fun _ => rfl
 have hr_ : ∀ g, cfg.raw g = (g == 253 || g == 225 || g == 53) := fun _ => rfl
 refine rF_fn rfl rfl Tryz.func180 rfl ?_
 repeat' first|simp (disch:=first|omega|assumption|decide) only[go_sem,hm,hz,ht,hr_,tz_e,pow_e,z65,wdl,bind_some_,map_some_,oneD_fold]|(apply ifP_in<;>intro)
 refine rL_loop (σ := Nat) (fun k e K => e 13 = .i (65 - k) ∧ e 1 = .v (.int .u64 (dq v k)) ∧ e 12 = .ptr H.length 0 ∧ e 14 = .v (.int .u64 4) ∧ e 15 = .v (.int .u64 16) ∧ e 16 = .v (.int .u64 15) ∧ e 3 = .b false ∧ e 4 = .b false ∧ K = H ++ [row65 v k] ∧ k ≤ 3 ∧ (k = 1 → 16 ≤ v) ∧ (k = 2 → 256 ≤ v) ∧ (k = 3 → 4096 ≤ v)) (fun k => 3 - k) 0 ?_ ?_
 ·refine ⟨?_, ?_, ?_, ?_, ?_, ?_, ?_, ?_, rfl, by omega, by omega, by omega, by omega⟩
  all_goals first | (simp (disch := first | assumption | omega) only [go_sem]; done) | (simp (disch := first | assumption | omega) only [go_sem]; rfl)
 ·rintro k e K ⟨g13, g1, g12, g14, g15, g16, g3, g4, rfl, i1, i2, i3, i4⟩
  have hx := hx_dg h0 h1
  obtain rfl | rfl | rfl | rfl : k = 0 ∨ k = 1 ∨ k = 2 ∨ k = 3 := by omega
  ·have g1 : e 1 = .v (.int .u64 v) := g1
   have g13 : e 13 = .i 65 := g13
   have ha := and15u h0 h1
   by_cases hv : 16 ≤ v
   ·repeat' first|simp (disch:=first|omega|assumption|decide) only[go_sem,hm,hz,ht,hr_,g13,g1,g12,g14,g15,g16,g3,g4,and_eu,ha,d36,dgt,s0,wdl,bind_some_,map_some_,oneD_fold]|(apply ifP_in<;>intro)
    exact ⟨1, ⟨rfl, rfl, rfl, by omega, fun _ => hv, by omega, by omega⟩, by omega⟩
   ·have hvm : v % 16 = v := by omega
    have s0' := s0 (H := H) (v := v)
    rw [hvm] at s0'
    repeat' first|simp (disch:=first|omega|assumption|decide) only[go_sem,hm,hz,ht,hr_,g13,g1,g12,g14,g15,g16,g3,g4,and_eu,ha,d36,dgt,s0',sl1,cv1,wdl,bind_some_,map_some_,oneD_fold]|(apply ifP_in<;>intro)
    exact ⟨_, by rw [hx, if_pos (by omega)], List.prefix_append _ _⟩
  ·have g1 : e 1 = .v (.int .u64 (v / 16)) := g1
   have g13 : e 13 = .i 64 := g13
   have hk := i2 rfl
   have ha := and15u (a := v / 16) (by omega) (by omega)
   by_cases hv : 16 ≤ v / 16
   ·repeat' first|simp (disch:=first|omega|assumption|decide) only[go_sem,hm,hz,ht,hr_,g13,g1,g12,g14,g15,g16,g3,g4,and_eu,ha,d36,dgt,s1,wdl,bind_some_,map_some_,oneD_fold]|(apply ifP_in<;>intro)
    exact ⟨2, ⟨rfl, congrArg (fun x => AV.v (.int .u64 x)) (by show v / 16 / 16 = v / 256; omega), rfl, by omega, by omega, by omega, by omega⟩, by omega⟩
   ·have hvm : v / 16 % 16 = v / 16 := by omega
    have s' := s1 (H := H) (v := v)
    rw [hvm] at s'
    repeat' first|simp (disch:=first|omega|assumption|decide) only[go_sem,hm,hz,ht,hr_,g13,g1,g12,g14,g15,g16,g3,g4,and_eu,ha,d36,dgt,s',sl2,cv2,wdl,bind_some_,map_some_,oneD_fold]|(apply ifP_in<;>intro)
    exact ⟨_, by rw [hx, if_neg (by omega), if_pos (by omega)], List.prefix_append _ _⟩
  ·have g1 : e 1 = .v (.int .u64 (v / 256)) := g1
   have g13 : e 13 = .i 63 := g13
   have hk := i3 rfl
   have ha := and15u (a := v / 256) (by omega) (by omega)
   by_cases hv : 16 ≤ v / 256
   ·repeat' first|simp (disch:=first|omega|assumption|decide) only[go_sem,hm,hz,ht,hr_,g13,g1,g12,g14,g15,g16,g3,g4,and_eu,ha,d36,dgt,s2,wdl,bind_some_,map_some_,oneD_fold]|(apply ifP_in<;>intro)
    exact ⟨3, ⟨rfl, congrArg (fun x => AV.v (.int .u64 x)) (by show v / 256 / 16 = v / 4096; omega), rfl, by omega, by omega, by omega, by omega⟩, by omega⟩
   ·have hvm : v / 256 % 16 = v / 256 := by omega
    have s' := s2 (H := H) (v := v)
    rw [hvm] at s'
    repeat' first|simp (disch:=first|omega|assumption|decide) only[go_sem,hm,hz,ht,hr_,g13,g1,g12,g14,g15,g16,g3,g4,and_eu,ha,d36,dgt,s',sl3,cv3,wdl,bind_some_,map_some_,oneD_fold]|(apply ifP_in<;>intro)
    exact ⟨_, by rw [hx, if_neg (by omega), if_neg (by omega), if_pos (by omega)], List.prefix_append _ _⟩
  ·have g1 : e 1 = .v (.int .u64 (v / 4096)) := g1
   have g13 : e 13 = .i 62 := g13
   have hk := i4 rfl
   have ha := and15u (a := v / 4096) (by omega) (by omega)
   have hvm : v / 4096 % 16 = v / 4096 := by omega
   have s' := s3 (H := H) (v := v)
   rw [hvm] at s'
   repeat' first|simp (disch:=first|omega|assumption|decide) only[go_sem,hm,hz,ht,hr_,g13,g1,g12,g14,g15,g16,g3,g4,and_eu,ha,d36,dgt,s',sl4,cv4,wdl,bind_some_,map_some_,oneD_fold]|(apply ifP_in<;>intro)
   exact ⟨_, by rw [hx, if_neg (by omega), if_neg (by omega), if_neg (by omega)], List.prefix_append _ _⟩
theorem bits_e (v : Int) (h0 : 0 ≤ v) (h1 : v < 65536) : WF Tryz.prog cfg 108 [.v (.int .u64 v), .i 16] H (fun r H' => r = .str (Ho.hx v) ∧ H <+: H') := by
 have hm : ∀ d, cfg.muF 108 d = (false) := fun _ => rfl
 have hz : ∀ d, cfg.fzF 108 d = (false) := fun _ => rfl
 have ht : ∀ d, cfg.tkF 108 d = (false) := fun _ => rfl
 have hr_ : ∀ g, cfg.raw g = (g == 253 || g == 225 || g == 53) := fun _ => rfl
 refine rF_fn rfl rfl Tryz.func108 rfl ?_
 repeat' first|simp (disch:=first|omega|assumption|decide) only[go_sem,hm,hz,ht,hr_,wdl,bind_some_,map_some_,oneD_fold]|(apply ifP_in<;>intro)
 have key : WF Tryz.prog cfg 163 [.v (.int .u64 v), .i 16] H (fun r H' => r = .str (Ho.hx v) ∧ H <+: H') := by
  have hm : ∀ d, cfg.muF 163 d = (false) := fun _ => rfl
  have hz : ∀ d, cfg.fzF 163 d = (false) := fun _ => rfl
  have ht : ∀ d, cfg.tkF 163 d = (false) := fun _ => rfl
  have hr_ : ∀ g, cfg.raw g = (g == 253 || g == 225 || g == 53) := fun _ => rfl
  refine rF_fn rfl rfl Tryz.func163 rfl ?_
  repeat' first|simp (disch:=first|omega|assumption|decide) only[go_sem,hm,hz,ht,hr_,wdl,bind_some_,map_some_,oneD_fold]|(apply ifP_in<;>intro)
  refine rF_use (bits_w v h0 h1) ?_
  rintro _ H1 ⟨d, rfl, T, rfl⟩
  repeat' first|simp (disch:=first|omega|assumption|decide) only[go_sem,hm,hz,ht,hr_,wdl,bind_some_,map_some_,oneD_fold]|(apply ifP_in<;>intro)
  exact ⟨T, rfl⟩
 refine rF_use key ?_
 rintro _ H1 ⟨rfl, T, rfl⟩
 repeat' first|simp (disch:=first|omega|assumption|decide) only[go_sem,hm,hz,ht,hr_,wdl,bind_some_,map_some_,oneD_fold]|(apply ifP_in<;>intro)
 exact ⟨T, rfl⟩
end Hs
end Go.Proofs
/- Walks: machines as texts, the program's side. -/
set_option linter.unusedVariables false
set_option linter.unusedSimpArgs false
namespace Go.Proofs
open Go.Lv
namespace Hs
open Pu Ut Utf In
variable {H : Heap}
theorem itoa_d3 (m : Nat) (h : m < 256) : Lib.itoa (m : Int) = Ho.d3 (m : Int) := by
 have e : Lib.itoa (m : Int) = Lib.decDigits m := by
  unfold Lib.itoa
  rw [if_neg (by omega), Int.toNat_natCast]
 have c : ∀ k : Nat, k < 10 → Lib.decDigits k = [Ho.ch (k : Int)] := by
  intro k hk
  rw [Lib.decDigits, dif_pos hk]
  unfold Ho.ch; rw [Int.toNat_natCast]
 have s : ∀ k : Nat, ¬ k < 10 → Lib.decDigits k = Lib.decDigits (k / 10) ++ [Ho.ch ((k % 10 : Nat) : Int)] := by
  intro k hk
  conv => lhs; rw [Lib.decDigits, dif_neg hk]
  unfold Ho.ch; rw [Int.toNat_natCast]
 rw [e]
 unfold Ho.d3
 by_cases h1 : m < 10
 ·rw [if_pos (by omega), c m h1]
 ·rw [if_neg (by omega)]
  by_cases h2 : m < 100
  ·rw [if_pos (by omega), s m h1, c _ (by omega)]
   simp only [List.cons_append, List.nil_append, Int.natCast_ediv, Int.natCast_emod, Int.cast_ofNat_Int]
  ·rw [if_neg (by omega), s m h1, s (m / 10) (by omega), c _ (by omega)]
   simp only [List.cons_append, List.nil_append, Int.natCast_ediv, Int.natCast_emod, Int.cast_ofNat_Int]
   rw [show (m : Int) / 10 / 10 = m / 100 by omega]
theorem itoa_e {n : Int} (h0 : 0 ≤ n) (h1 : n < 256) {Q : K (AV → Heap → Prop)} : @rF Tryz.prog cfg 56 [.i n] H Q = Q.v (.str (Ho.d3 n)) H := by
 refine rF_eq ((itoa_at rfl (by omega) (by omega)).mono ?_)
 rintro r H' ⟨rfl, rfl⟩
 refine ⟨?_, rfl⟩
 have := itoa_d3 n.toNat (by omega)
 rw [Int.toNat_of_nonneg h0] at this
 rw [this]
theorem and255u {a : Int} (h0 : 0 ≤ a) (h1 : a < 4294967296) {P : Program} {xt : TypeId} : bin P .and xt (.v (.int .u32 a)) (.v (.int .u32 255)) = some (.v (.int .u32 (a % 256))) := by
 show some (AV.v (.int .u32 (IntKind.u32.wrap ((BitVec.ofInt 32 a &&& BitVec.ofInt 32 255).toNat : Int)))) = _
 have e : (BitVec.ofInt 32 a &&& BitVec.ofInt 32 255).toNat = a.toNat % 256 := by
  rw [BitVec.toNat_and]
  have e1 : (BitVec.ofInt 32 a).toNat = a.toNat := by simp [BitVec.toNat_ofInt]; omega
  have e2 : (BitVec.ofInt 32 255).toNat = 2 ^ 8 - 1 := by decide
  rw [e1, e2, Nat.and_two_pow_sub_one_eq_mod]
 rw [e]
 unfold IntKind.wrap
 simp [IntKind.bits, IntKind.signed]
 omega
theorem join_e (l : List (List UInt8)) (c : UInt8) (h : (Sp.join [c] l).length ≤ 1000000) (hl : l.length ≤ 1000000) {Q : K (AV → Heap → Prop)} : @rF Tryz.prog cfg 67 [.sl (l.map AV.str), .str [c]] H Q = Q.v (.str (Sp.join [c] l)) H :=
 rF_eq (WF.ext rfl (join_run (by omega) (by omega)) ⟨rfl, rfl⟩)
theorem print4_w (v : Int) (h0 : 0 ≤ v) (h1 : v < 4294967296) : WF Tryz.prog cfg 50 [.v (.int .u32 v)] H (fun r H' => r = .str (Ho.pr4 v) ∧ H' = H) := by
 have hm : ∀ d, cfg.muF 50 d = (false) := fun _ => rfl
 have hz : ∀ d, cfg.fzF 50 d = (false) := fun _ => rfl
 have ht : ∀ d, cfg.tkF 50 d = (false) := fun _ => rfl
 have hr_ : ∀ g, cfg.raw g = (g == 253 || g == 225 || g == 53) := fun _ => rfl
 refine rF_fn rfl rfl Tryz.func50 rfl ?_
 repeat' first|simp (disch:=first|omega|assumption|decide) only[go_sem,hm,hz,ht,hr_,wdl,bind_some_,map_some_,oneD_fold]|(apply ifP_in<;>intro)
 refine rL_loop (σ := Nat) (fun i e H' => H' = H ∧ e 0 = .v (.int .u32 v) ∧ e 5 = .i i ∧ e 3 = .sl ((((Ho.q4 v).map Ho.d3).take i).map AV.str) ∧ i ≤ 4) (fun i => 4 - i) 0 ?_ ?_
 ·refine ⟨rfl, ?_, ?_, ?_, by omega⟩
  all_goals first | (simp (disch := first | assumption | omega) only [go_sem]; done) | (simp (disch := first | assumption | omega) only [go_sem]; rfl)
 ·rintro i e H' ⟨rfl, g0, g5, g3, i1⟩
  have hl := Ho.pr4_len v
  have hpe : Ho.pr4 v = Sp.join [46] ((Ho.q4 v).map Ho.d3) := rfl
  obtain rfl | rfl | rfl | rfl | rfl : i = 0 ∨ i = 1 ∨ i = 2 ∨ i = 3 ∨ i = 4 := by omega
  ·have hs : (2 : Int) ^ (24 - 8 * ((0 : Nat) : Int)).toNat = 16777216 := by decide
   have hln : (((Ho.q4 v).map Ho.d3).take 0).length = 0 := rfl
   have hm0 : v / 16777216 % 256 = v / 16777216 := by omega
   repeat' first|simp (disch:=first|omega|assumption|decide) only[go_sem,hm,hz,ht,hr_,g0,g5,g3,hs,and255u,itoa_e,hln,hm0,Int.ediv_one,wdl,bind_some_,map_some_,oneD_fold]|(apply ifP_in<;>intro)
   exact ⟨1, ⟨rfl, rfl, by omega⟩, by omega⟩
  ·have hs : (2 : Int) ^ (24 - 8 * ((1 : Nat) : Int)).toNat = 65536 := by decide
   have hln : (((Ho.q4 v).map Ho.d3).take 1).length = 1 := rfl
   have hm0 : v / 16777216 % 256 = v / 16777216 := by omega
   repeat' first|simp (disch:=first|omega|assumption|decide) only[go_sem,hm,hz,ht,hr_,g0,g5,g3,hs,and255u,itoa_e,hln,hm0,Int.ediv_one,wdl,bind_some_,map_some_,oneD_fold]|(apply ifP_in<;>intro)
   exact ⟨2, ⟨rfl, rfl, by omega⟩, by omega⟩
  ·have hs : (2 : Int) ^ (24 - 8 * ((2 : Nat) : Int)).toNat = 256 := by decide
   have hln : (((Ho.q4 v).map Ho.d3).take 2).length = 2 := rfl
   have hm0 : v / 16777216 % 256 = v / 16777216 := by omega
   repeat' first|simp (disch:=first|omega|assumption|decide) only[go_sem,hm,hz,ht,hr_,g0,g5,g3,hs,and255u,itoa_e,hln,hm0,Int.ediv_one,wdl,bind_some_,map_some_,oneD_fold]|(apply ifP_in<;>intro)
   exact ⟨3, ⟨rfl, rfl, by omega⟩, by omega⟩
  ·have hs : (2 : Int) ^ (24 - 8 * ((3 : Nat) : Int)).toNat = 1 := by decide
   have hln : (((Ho.q4 v).map Ho.d3).take 3).length = 3 := rfl
   have hm0 : v / 16777216 % 256 = v / 16777216 := by omega
   repeat' first|simp (disch:=first|omega|assumption|decide) only[go_sem,hm,hz,ht,hr_,g0,g5,g3,hs,and255u,itoa_e,hln,hm0,Int.ediv_one,wdl,bind_some_,map_some_,oneD_fold]|(apply ifP_in<;>intro)
   exact ⟨4, ⟨rfl, rfl, by omega⟩, by omega⟩
  ·have ht4 : ((Ho.q4 v).map Ho.d3).take 4 = (Ho.q4 v).map Ho.d3 := rfl
   rw [ht4] at g3
   rw [hpe] at hl
   have hj := @join_e H' ((Ho.q4 v).map Ho.d3) 46 (by omega) (by simp [Ho.q4])
   repeat' first|simp (disch:=first|omega|assumption|decide) only[go_sem,hm,hz,ht,hr_,g0,g5,g3,hj,wdl,bind_some_,map_some_,oneD_fold]|(apply ifP_in<;>intro)
   rw [hpe]
end Hs
end Go.Proofs
/- Walks: two hosts that are the same. -/
set_option linter.unusedVariables false
set_option linter.unusedSimpArgs false
namespace Go.Proofs
open Go.Lv
namespace Hs
open Pu Ut Utf In
variable {H : Heap}
theorem guard25 : Tryz.prog.eqGuardType Tryz.prog.depth 25 = false := by kernel_rfl
end Hs
end Go.Proofs
