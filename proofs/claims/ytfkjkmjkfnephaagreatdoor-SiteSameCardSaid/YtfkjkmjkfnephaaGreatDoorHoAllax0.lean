/- A value semantics of the loaded code, its soundness, and walks through functions over it. -/
import Derived.Test.YtfkjkmjkfnephaaGreatDoorUtSpec
import Derived.Test.YtfkjkmjkfnephaaGreatDoorSpSpec
import Derived.Test.YtfkjkmjkfnephaaGreatDoorLvAll13
import Derived.Test.YtfkjkmjkfnephaaGreatDoorLvAll11
import Derived.Test.YtfkjkmjkfnephaaGreatDoorLvAll14
set_option linter.unusedVariables false
set_option linter.unusedSimpArgs false
namespace Ho
open Go
def dig (c : UInt8) : Int :=
 if 48 ≤ c.toNat ∧ c.toNat ≤ 57 then c.toNat - 48 else if 97 ≤ c.toNat ∧ c.toNat ≤ 102 then c.toNat - 87 else if 65 ≤ c.toNat ∧ c.toNat ≤ 70 then c.toNat - 55 else -1
def HEX : List UInt8 := [48, 49, 50, 51, 52, 53, 54, 55, 56, 57, 97, 98, 99, 100, 101, 102]
def decB (h l : Int) : UInt8 := Utf.toB (Utf.orI (h * 16) l)
def dec (l : List UInt8) : List UInt8 :=
 match l with
 | [] => []
 | c :: r => if c = 37 ∧ 2 ≤ r.length ∧ 0 ≤ dig (r.getD 0 0) ∧ 0 ≤ dig (r.getD 1 0) then decB (dig (r.getD 0 0)) (dig (r.getD 1 0)) :: dec (r.drop 2) else c :: dec r
termination_by l.length
decreasing_by all_goals (simp; try omega)
def ctl (c : UInt8) : Bool := decide (c.toNat < 32 ∨ 126 < c.toNat)
def hexU : List UInt8 := [48, 49, 50, 51, 52, 53, 54, 55, 56, 57, 65, 66, 67, 68, 69, 70]
def enc1 (c : UInt8) : List UInt8 := if ctl c = true then [37, hexU.getD (c.toNat / 16) 0, hexU.getD (c.toNat % 16) 0] else [c]
def enc (b : List UInt8) : List UInt8 := b.flatMap enc1
theorem wrap_small {n : Int} (h0 : 0 ≤ n) (h1 : n < 4611686018427387904) : IntKind.i64.wrap n = n := by
 unfold IntKind.wrap
 simp [IntKind.bits, IntKind.signed]
 omega
theorem ofInt_toNat (a : Nat) (ha : a < 4611686018427387904) : (BitVec.ofInt 64 (a : Int)).toNat = a := by
 rw [BitVec.toNat_ofInt]
 omega
theorem orI_nat {a b : Nat} (ha : a < 4611686018427387904) (hb : b < 4611686018427387904) : Utf.orI a b = ((a ||| b : Nat) : Int) := by
 unfold Utf.orI
 rw [BitVec.toNat_or, ofInt_toNat a ha, ofInt_toNat b hb]
 have h := Nat.or_lt_two_pow (n := 62) (x := a) (y := b) (by omega) (by omega)
 exact wrap_small (by omega) (by omega)
theorem andI_nat {a b : Nat} (ha : a < 4611686018427387904) (hb : b < 4611686018427387904) : Utf.andI a b = ((a &&& b : Nat) : Int) := by
 unfold Utf.andI
 rw [BitVec.toNat_and, ofInt_toNat a ha, ofInt_toNat b hb]
 have h : a &&& b ≤ a := Nat.and_le_left
 exact wrap_small (by omega) (by omega)
theorem orI_add {a b : Int} (k : Nat) (hk : k ≤ 61) (ha : 0 ≤ a) (ha2 : a * 2 ^ k < 4611686018427387904) (hb : 0 ≤ b) (hb2 : b < 2 ^ k) : Utf.orI (a * 2 ^ k) b = a * 2 ^ k + b := by
 obtain ⟨x, rfl⟩ := Int.eq_ofNat_of_zero_le ha
 obtain ⟨y, rfl⟩ := Int.eq_ofNat_of_zero_le hb
 have hy : y < 2 ^ k := by exact_mod_cast hb2
 have e : ((x : Int) * 2 ^ k) = ((x * 2 ^ k : Nat) : Int) := by push_cast; rfl
 rw [e] at ha2
 have hx : x * 2 ^ k < 4611686018427387904 := by omega
 have hp2 : 2 ^ k ≤ 2 ^ 61 := Nat.pow_le_pow_right (by omega) hk
 have hy2 : y < 4611686018427387904 := by omega
 rw [e]
 rw [orI_nat hx hy2, ← Nat.shiftLeft_eq, ← Nat.shiftLeft_add_eq_or_of_lt hy, Nat.shiftLeft_eq]
 push_cast; rfl
theorem andI_mod {a : Int} (k : Nat) (hk : k ≤ 61) (ha : 0 ≤ a) (ha2 : a < 4611686018427387904) {m : Int} (hm : m = 2 ^ k - 1) : Utf.andI a m = a % 2 ^ k := by
 obtain ⟨x, rfl⟩ := Int.eq_ofNat_of_zero_le ha
 have hp : 0 < 2 ^ k := Nat.two_pow_pos k
 have hp2 : 2 ^ k ≤ 2 ^ 61 := Nat.pow_le_pow_right (by omega) hk
 have e : m = ((2 ^ k - 1 : Nat) : Int) := by rw [hm, Int.natCast_sub hp]; push_cast; rfl
 rw [e, andI_nat (by omega) (by simp at hp2 ⊢; omega), Nat.and_two_pow_sub_one_eq_mod]
 push_cast; rfl
theorem or64 {c d : Int} (h0 : 0 ≤ c) (h1 : c < 16777216) (h2 : 0 ≤ d) (h3 : d < 64) : Utf.orI (c * 64) d = c * 64 + d := orI_add 6 (by omega) h0 (by omega) h2 (by omega)
theorem and_63 {c : Int} (h0 : 0 ≤ c) (h1 : c < 16777216) : Utf.andI c 63 = c % 64 := andI_mod 6 (by omega) h0 (by omega) rfl
theorem and_31 {c : Int} (h0 : 0 ≤ c) (h1 : c < 16777216) : Utf.andI c 31 = c % 32 := andI_mod 5 (by omega) h0 (by omega) rfl
theorem and_15 {c : Int} (h0 : 0 ≤ c) (h1 : c < 16777216) : Utf.andI c 15 = c % 16 := andI_mod 4 (by omega) h0 (by omega) rfl
theorem and_7 {c : Int} (h0 : 0 ≤ c) (h1 : c < 16777216) : Utf.andI c 7 = c % 8 := andI_mod 3 (by omega) h0 (by omega) rfl
def lead (x : Int) : Int × Int × Int :=
 if x < 128 then (0, 0, 0) else if 194 ≤ x ∧ x ≤ 223 then (1, 128, 191) else if x = 224 then (2, 160, 191) else if x = 237 then (2, 128, 159)
 else if 225 ≤ x ∧ x ≤ 239 then (2, 128, 191) else if x = 240 then (3, 144, 191) else if x = 244 then (3, 128, 143) else if 241 ≤ x ∧ x ≤ 243 then (3, 128, 191) else (-1, 0, 0)
def cont (b : List UInt8) : Nat → Nat → Int → Int → Int → Int × Nat
 | 0, i, _, _, c => (c, i)
 | k + 1, i, lo, hi, c => if i < b.length ∧ lo ≤ (b.getD i 0).toNat ∧ ((b.getD i 0).toNat : Int) ≤ hi then cont b k (i + 1) 128 191 (c * 64 + ((b.getD i 0).toNat : Int) % 64) else (65533, i)
theorem cont_bnd (b : List UInt8) : ∀ (k i : Nat) (lo hi c : Int), i ≤ (cont b k i lo hi c).2 ∧ (cont b k i lo hi c).2 ≤ i + k := by
 intro k
 induction k with
 | zero => intro i lo hi c; simp [cont]
 | succ k ih =>
  intro i lo hi c
  unfold cont
  split
  ·have := ih (i + 1) 128 191 (c * 64 + ((b.getD i 0).toNat : Int) % 64); omega
  ·simp only; omega
theorem cont_step {b : List UInt8} {m i : Nat} (h : i ≤ m) (lo hi c : Int) : cont b (m + 1 - i) i lo hi c = if i < b.length ∧ lo ≤ (b.getD i 0).toNat ∧ ((b.getD i 0).toNat : Int) ≤ hi then cont b (m + 1 - (i + 1)) (i + 1) 128 191 (c * 64 + ((b.getD i 0).toNat : Int) % 64) else (65533, i) := by
 obtain ⟨k, hk⟩ : ∃ k, m + 1 - i = k + 1 := ⟨m - i, by omega⟩
 rw [hk, show m + 1 - (i + 1) = k by omega, cont]
theorem cont_end {b : List UInt8} {m : Nat} (lo hi c : Int) : cont b (m + 1 - (m + 1)) (m + 1) lo hi c = (c, m + 1) := by rw [Nat.sub_self, cont]
theorem lead_cases (x : Int) : lead x = (-1, 0, 0) ∨ lead x = (0, 0, 0) ∨ ∃ lo hi : Nat, lo < 256 ∧ hi < 256 ∧ (lead x = (1, (lo : Int), (hi : Int)) ∨ lead x = (2, (lo : Int), (hi : Int)) ∨ lead x = (3, (lo : Int), (hi : Int))) := by
 unfold lead
 split
 ·exact .inr (.inl rfl)
 split
 ·exact .inr (.inr ⟨128, 191, by omega, by omega, .inl rfl⟩)
 split
 ·exact .inr (.inr ⟨160, 191, by omega, by omega, .inr (.inl rfl)⟩)
 split
 ·exact .inr (.inr ⟨128, 159, by omega, by omega, .inr (.inl rfl)⟩)
 split
 ·exact .inr (.inr ⟨128, 191, by omega, by omega, .inr (.inl rfl)⟩)
 split
 ·exact .inr (.inr ⟨144, 191, by omega, by omega, .inr (.inr rfl)⟩)
 split
 ·exact .inr (.inr ⟨128, 143, by omega, by omega, .inr (.inr rfl)⟩)
 split
 ·exact .inr (.inr ⟨128, 191, by omega, by omega, .inr (.inr rfl)⟩)
 ·exact .inl rfl
def nx (b : List UInt8) : Int × Nat :=
 let x : Int := (b.getD 0 0).toNat
 let l := lead x
 if l.1 < 0 then (65533, 1) else if l.1 = 0 then (x, 1) else cont b l.1.toNat 1 l.2.1 l.2.2 (x % (if l.1 = 1 then 32 else if l.1 = 2 then 16 else 8))
theorem nx_pos (b : List UInt8) : 1 ≤ (nx b).2 := by
 unfold nx
 simp only
 split
 ·simp
 ·split
  ·simp
  ·exact (cont_bnd b _ 1 _ _ _).1
theorem cont_le (b : List UInt8) : ∀ (k i : Nat) (lo hi c : Int), i ≤ b.length → (cont b k i lo hi c).2 ≤ b.length := by
 intro k
 induction k with
 | zero => intro i lo hi c h; simpa [cont] using h
 | succ k ih =>
  intro i lo hi c h
  unfold cont
  split
  ·rename_i hc; exact ih (i + 1) 128 191 _ (by omega)
  ·exact h
theorem nx_le (b : List UInt8) (h : 0 < b.length) : (nx b).2 ≤ b.length := by
 unfold nx
 simp only
 split
 ·exact h
 ·split
  ·exact h
  ·exact cont_le b _ 1 _ _ _ h
def lossy (b : List UInt8) : List Int :=
 if h : b = [] then [] else (nx b).1 :: lossy (b.drop (nx b).2)
termination_by b.length
decreasing_by
 have h1 := nx_pos b
 have h2 : 0 < b.length := List.length_pos_iff.2 h
 simp only [List.length_drop]
 omega
theorem lossy_nil : lossy [] = [] := by rw [lossy]; simp
theorem lossy_cons {b : List UInt8} (h : 0 < b.length) : lossy b = (nx b).1 :: lossy (b.drop (nx b).2) := by
 rw [lossy, dif_neg (List.length_pos_iff.1 h)]
theorem lossy_len : ∀ (n : Nat) (b : List UInt8), b.length ≤ n → (lossy b).length ≤ b.length := by
 intro n
 induction n with
 | zero => intro b h; rw [List.eq_nil_of_length_eq_zero (by omega : b.length = 0), lossy_nil]; simp
 | succ n ih =>
  intro b h
  by_cases h0 : b.length = 0
  ·rw [List.eq_nil_of_length_eq_zero h0, lossy_nil]; simp
  ·rw [lossy_cons (by omega)]
   have h1 := nx_pos b
   have := ih (b.drop (nx b).2) (by simp; omega)
   simp at this ⊢; omega
end Ho
set_option linter.unusedVariables false
set_option linter.unusedSimpArgs false
namespace Ho
def lossyF : Nat → List UInt8 → List Int
 | 0, _ => []
 | k + 1, b => if b.isEmpty = true then [] else (nx b).1 :: lossyF k (b.drop (nx b).2)
theorem lossyF_eq : ∀ (k : Nat) (b : List UInt8), b.length ≤ k → lossyF k b = lossy b := by
 intro k
 induction k with
 | zero =>
  intro b h
  have := List.eq_nil_of_length_eq_zero (Nat.le_zero.1 h)
  subst this
  rw [lossy_nil]; rfl
 | succ k ih =>
  intro b h
  unfold lossyF
  cases b with
  | nil => rw [lossy_nil]; rfl
  | cons x b =>
   have hs : 0 < (x :: b).length := by simp
   have hn := nx_pos (x :: b)
   rw [lossy_cons hs, if_neg (by simp), ih _ (by simp at h ⊢; omega)]
end Ho
namespace Go.Lv
def bytesX : List AV → Option (List UInt8)
 | [] => some []
 | .v (.int .u8 n) :: r => if 0 ≤ n ∧ n < 256 then (bytesX r).map (UInt8.ofNat n.toNat :: ·) else none
 | _ => none
theorem bytesX_spec : ∀ {xs : List AV} {b : List UInt8}, bytesX xs = some b → xs = b.map byteA := by
 intro xs
 induction xs with
 | nil => intro b h; injection h with h; subst h; rfl
 | cons x xs ih =>
  intro b h
  unfold bytesX at h
  split at h
  ·rename_i h1; cases h1
  ·rename_i n r h1
   injection h1 with h1 h2; subst h1 h2
   split at h
   ·rename_i hn
    obtain ⟨c, h3, rfl⟩ := xoM.1 h
    rw [ih h3, List.map_cons]
    congr 1
    show AV.v (.int .u8 n) = AV.v (.int .u8 ((UInt8.ofNat n.toNat).toNat : Int))
    have : (UInt8.ofNat n.toNat).toNat = n.toNat := by
     rw [UInt8.toNat_ofNat']
     exact Nat.mod_eq_of_lt (by omega)
    rw [this]
    congr 2
    omega
   ·cases h
  ·cases h
def lossyR (H : Heap) : List Int → AV × Heap
 | [] => (nilA, H)
 | x :: l => (.mr (H.length + l.length) 0 (l.length + 1) 1 false, H ++ List.replicate l.length [] ++ [(x :: l).map i64A])
def lossyMT (H : Heap) : List AV → Option (AV × Heap)
 | [.sl xs] => (bytesX xs).bind fun b => if b.length ≤ 1000000 then some (lossyR H (Ho.lossyF b.length b)) else none
 | _ => none
theorem all_i64 (l : List Int) : (l.map i64A).all AV.one = true := by
 rw [List.all_map, List.all_eq_true]; intro x _; rfl
theorem appendM_lossy {P : Program} {H : Heap} {t u el el' : TypeId} {z : List AV} [ht : UndIs P t (.slice el)] [hu : UndIs P u (.slice el')] [hs : SizeIs P el 1] [hb : BytesIs P el 8] [hz : ZeroIs P el z] [ha : AggIs P el false] (hzl : z.length = 1) {l : List Int} {c : Int} (hle : l.length ≤ 1000000) :
  appendM P (lossyR H l).2 t u (lossyR H l).1 (.sl [.v (.int .i64 c)]) = some (lossyR H (l ++ [c])) := by
 rw [appendM_cons (by simp)]
 unfold appendM1
 rw [ht.h, hu.h]
 cases l with
 | nil =>
  simp only [lossyR, nilA, hs.h, hb.h, hz.h, ha.h, List.nil_append]
  rw [if_pos ⟨by omega, hzl, by intro a ha; simp at ha; subst ha; exact ⟨rfl, rfl⟩, by simp⟩, if_pos ⟨rfl, by simp⟩]
  simp [lossyR, i64A, AV.cells]
 | cons x l =>
  have hg : (H ++ List.replicate l.length [] ++ [(x :: l).map i64A])[H.length + l.length]? = some ((x :: l).map i64A) := by
   rw [xgR (by simp)]; simp
  simp only [lossyR, hs.h, hb.h, hz.h, ha.h, List.cons_append]
  rw [if_pos ⟨by omega, hzl, by intro a ha; simp at ha; subst ha; exact ⟨rfl, rfl⟩, by simp⟩, hg, Option.bind_some]
  have hln : ((x :: l).map i64A).take ((l.length + 1) * 1) = (x :: l).map i64A := List.take_of_length_le (by simp)
  rw [hln, if_pos ⟨by simp, by simp, by simp at hle ⊢; omega, by simp, by simp, plainRow_one (all_i64 _), all_i64 _⟩]
  have hset : (H ++ List.replicate l.length [] ++ [(x :: l).map i64A]).set (H.length + l.length) [] = H ++ List.replicate (l.length + 1) [] := by
   rw [List.set_append_right _ _ (by simp)]
   simp [List.replicate_succ']
  rw [hset]
  simp [lossyR, i64A, AV.cells, Nat.add_assoc]
end Go.Lv
