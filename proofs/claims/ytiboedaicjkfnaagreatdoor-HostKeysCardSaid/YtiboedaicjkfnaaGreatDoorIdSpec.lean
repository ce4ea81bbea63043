/- A value semantics of the loaded code, its soundness, and walks through functions over it. -/
import Derived.Test.YtiboedaicjkfnaaGreatDoorPunyAllax0
import Derived.Test.YtiboedaicjkfnaaGreatDoorLvAll8
import Derived.Test.YtiboedaicjkfnaaGreatDoorPunyRound
import Derived.Test.YtiboedaicjkfnaaGreatDoorUtSpec
import Derived.Test.YtiboedaicjkfnaaGreatDoorSpSpec
set_option linter.unusedVariables false
set_option linter.unusedSimpArgs false
namespace Id
open Go
def within (c lo hi : Int) : Bool := decide (lo ≤ c) && decide (c ≤ hi)
def ignored (c : Int) : Bool := decide (c = 173) || decide (c = 8203) || decide (c = 8288) || within c 65024 65039 || decide (c = 65279)
def low (c : Int) : Int := IntKind.i64.wrap ((BitVec.ofInt 64 c &&& BitVec.ofInt 64 65535).toNat : Int)
def odd (c : Int) : Int := IntKind.i64.wrap ((BitVec.ofInt 64 c &&& BitVec.ofInt 64 1).toNat : Int)
def forbidden (c : Int) : Bool := !Puny.scalar c || within c 128 160 || within c 57344 63743 || within c 64976 65007 || decide (983040 ≤ c) || decide (65534 ≤ low c)
def single (c : Int) : List Int :=
 if c = 304 then [105, 775] else if c = 329 then [700, 110] else if c = 376 then [255] else if c = 383 then [115]
 else if c = 12290 ∨ c = 65294 ∨ c = 65377 then [46] else if c = 170 then [97] else if c = 186 then [111] else if c = 178 ∨ c = 179 then [c - 128] else if c = 185 then [49] else if c = 8462 then [104] else []
def more (c : Int) : Int :=
 if (Id.within c 65 90 || (Id.within c 192 222 && decide (c ≠ 215)) || (Id.within c 913 937 && decide (c ≠ 930)) || Id.within c 1040 1071) = true then 32
 else if Id.within c 1024 1039 = true then 80
 else if (Id.within c 256 311 || Id.within c 330 375) = true then 1 - odd c
 else if (Id.within c 313 328 || Id.within c 377 382) = true then odd c
 else 0
theorem odd_bnd (c : Int) : 0 ≤ odd c ∧ odd c ≤ 1 := by
 have h : (BitVec.ofInt 64 c &&& BitVec.ofInt 64 1).toNat ≤ 1 := by
  rw [BitVec.toNat_and]
  exact Nat.and_le_right
 unfold odd
 generalize (BitVec.ofInt 64 c &&& BitVec.ofInt 64 1).toNat = k at *
 rcases (show k = 0 ∨ k = 1 by omega) with rfl | rfl <;> decide
def maps (c : Int) : List Int :=
 if 0 < (single c).length then single c
 else if 0 < more c then [c + more c]
 else if Id.within c 65281 65374 = true then [c - 65248 + more (c - 65248)]
 else if Id.within c 9312 9320 = true then [49 + c - 9312]
 else []
def kind (c : Int) : Int := if ignored c = true then 3 else if forbidden c = true then 4 else if 0 < (maps c).length then 2 else 1
def high (c : Int) : Bool := decide (c < 0) || decide (128 ≤ c)
def plain (l : List Int) : Bool := l.all fun c => !high c
theorem plain_not (l : List Int) (i : Nat) (hi : i < l.length) (h : high l[i] = true) : plain l = false := by
 cases hp : plain l with
 | false => rfl
 | true =>
  have := List.all_eq_true.1 hp l[i] (List.getElem_mem hi)
  rw [h] at this; cases this
theorem plain_snoc (l : List Int) (i : Nat) (hi : i < l.length) (hp : plain (l.take i) = true) (h : high l[i] = false) : plain (l.take (i + 1)) = true := by
 unfold plain at *
 rw [List.take_succ_eq_append_getElem hi, List.all_append, hp]
 simp [h]
def XN : List Int := [120, 110, 45, 45]
def XNb : List UInt8 := [120, 110, 45, 45]
def marked (l : List Int) : Bool := decide (l.take 4 = XN)
open Utf in
theorem ints_asc {l : List Int} (h : Id.plain l = true) : Puny.ints (asc l) = l := by
 unfold Puny.ints asc
 rw [List.map_map]
 conv => rhs; rw [← List.map_id l]
 refine List.map_congr_left fun c hc => ?_
 have := List.all_eq_true.1 h c hc
 simp [Id.high] at this
 simp [UInt8.toNat_ofNat']
 omega
theorem plain_bnd {l : List Int} (h : Id.plain l = true) : ∀ c ∈ l, 0 ≤ c ∧ c < 128 := by
 intro c hc
 have := List.all_eq_true.1 h c hc
 simp [Id.high] at this
 omega
theorem not_plain {l : List Int} (h : Id.plain l = false) : ∃ c ∈ l, c < 0 ∨ 128 ≤ c := by
 unfold plain at h
 rw [List.all_eq_false] at h
 obtain ⟨c, hc, h⟩ := h
 refine ⟨c, hc, ?_⟩
 simp [Id.high] at h
 omega
theorem text_marked (l : List Int) : decide ((Utf.text l).take 4 = XNb) = marked l := by
 have := Utf.text_take_low XNb l (by intro b hb; simp [XNb] at hb; rcases hb with rfl | rfl | rfl <;> decide)
 unfold marked
 exact decide_eq_decide.2 this
theorem text_mark {q : List Int} : Utf.text q = XNb ↔ q = XN := by
 constructor
 ·intro ht
  cases hp : Id.plain q with
  | true =>
   have := Utf.text_plain (plain_bnd hp)
   rw [← ints_asc hp, ← this, ht]; rfl
  | false =>
   obtain ⟨c, hc, hc2⟩ := not_plain hp
   obtain ⟨x, hx, hx2⟩ := Utf.text_high hc hc2
   exfalso
   rw [ht] at hx
   simp [XNb] at hx
   rcases hx with rfl | rfl | rfl <;> exact absurd hx2 (by decide)
 ·rintro rfl
  rfl
theorem more_range {c : Int} (h : 0 < more c) : 65 ≤ c := by
 unfold more at h
 split at h
 ·rename_i h1; simp [within] at h1; omega
 ·split at h
  ·rename_i h1; simp [within] at h1; omega
  ·split at h
   ·rename_i h1; simp [within] at h1; omega
   ·split at h
    ·rename_i h1; simp [within] at h1; omega
    ·omega
theorem decL_len {k : Nat} {r : List UInt8} {l : List Int} {n i b : Int} {out : List Int} (h : Puny.decL k r l n i b = some out) : out.length ≤ 256 := by
 induction k generalizing r l n i b with
 | zero => cases h
 | succ k ih =>
  unfold Puny.decL at h
  split at h
  ·cases h
  ·rename_i h256
   split at h
   ·injection h with h; subst h; omega
   ·split at h
    ·cases h
    ·split at h
     ·cases h
     ·split at h
      ·cases h
      ·exact ih h
theorem decode_len (s : List UInt8) : (Puny.decode s).1.length ≤ 256 := by
 unfold Puny.decode
 split
 ·simp
 ·split
  ·rename_i l h
   unfold Puny.dec at h
   split at h
   ·exact decL_len h
   ·cases h
  ·simp
def sound (rest : List UInt8) : Bool :=
 decide ((Puny.decode rest).2 = 0) && !plain (Puny.decode rest).1 && !marked (Puny.decode rest).1 && (Puny.decode rest).1.all (fun c => decide (kind c = 1)) && decide ((Puny.encode (Puny.decode rest).1).2 = 0) && decide ((Puny.encode (Puny.decode rest).1).1 = rest)
def label (l : List Int) : List UInt8 × Int :=
 if (plain l && !marked l) = true then (Utf.asc l, 0)
 else if plain l = true then (if sound ((Utf.asc l).drop 4) = true then (Utf.asc l, 0) else ([], 4))
 else if marked l = true then ([], 4)
 else if (Puny.encode l).2 = 0 then (XNb ++ (Puny.encode l).1, 0) else ([], (Puny.encode l).2)
def to (c : Int) : List Int := if kind c = 1 then [c] else if kind c = 2 then maps c else []
def badAt : List Int → Nat → Option Nat
 | [], _ => none
 | c :: r, i => if kind c = 4 then some i else badAt r (i + 1)
def mapG (l : List Int) : List Int × Int × Bool :=
 match badAt l 0 with
 | some i => ([], i, false)
 | none => (l.flatMap to, 0, true)
def labels : List (List Int) → List (List UInt8) × Int
 | [] => ([], 0)
 | x :: r => if (label x).2 = 0 then (if (labels r).2 = 0 then ((label x).1 :: (labels r).1, 0) else ([], (labels r).2)) else ([], (label x).2)
def toASCII (l : List Int) : List UInt8 × Int :=
 if 256 < l.length then ([], 11)
 else if (mapG l).2.2 = false then ([], 4)
 else if (labels (Sp.split 46 (mapG l).1)).2 ≠ 0 then ([], (labels (Sp.split 46 (mapG l).1)).2)
 else if 253 < (Sp.join [46] (labels (Sp.split 46 (mapG l).1)).1).length then ([], 3)
 else (Sp.join [46] (labels (Sp.split 46 (mapG l).1)).1, 0)
theorem labels_ok {p : List (List Int)} (h : ∀ x ∈ p, (label x).2 = 0) : labels p = (p.map fun x => (label x).1, 0) := by
 induction p with
 | nil => rfl
 | cons x r ih =>
  unfold labels
  rw [if_pos (h x (by simp)), ih fun y hy => h y (by simp [hy]), if_pos rfl]; rfl
theorem labels_err {p : List (List Int)} {i : Nat} (hi : i < p.length) (h : ∀ x ∈ p.take i, (label x).2 = 0) (he : (label p[i]).2 ≠ 0) : labels p = ([], (label p[i]).2) := by
 induction p generalizing i with
 | nil => simp at hi
 | cons x r ih =>
  cases i with
  | zero =>
   have he : (label x).2 ≠ 0 := he
   unfold labels
   rw [if_neg he]; rfl
  | succ i =>
   have := ih (i := i) (by simpa using hi) (fun y hy => h y (by simp [hy])) he
   unfold labels
   rw [if_pos (h x (by simp)), this]
   simp only [List.getElem_cons_succ]
   exact if_neg he
def uni1 (x : List UInt8) : List Int := if x.take 4 = XNb ∧ (Puny.decode (x.drop 4)).2 = 0 then (Puny.decode (x.drop 4)).1 else Puny.ints x
def toUni (s : List UInt8) : List Int := Sp.join [46] ((Sp.split 46 s).map uni1)
theorem badAt_none {l : List Int} {i : Nat} : badAt l i = none ↔ ∀ c ∈ l, kind c ≠ 4 := by
 induction l generalizing i with
 | nil => simp [badAt]
 | cons c r ih =>
  unfold badAt
  split
  ·rename_i h; simp [h]
  ·rename_i h; rw [ih]; simp [h]
theorem badAt_at {l : List Int} {k : Nat} (hk : k < l.length) (h0 : ∀ c ∈ l.take k, kind c ≠ 4) (h : kind l[k] = 4) (i : Nat) : badAt l i = some (i + k) := by
 induction l generalizing i k with
 | nil => simp at hk
 | cons c r ih =>
  cases k with
  | zero => unfold badAt; rw [if_pos (by simpa using h)]; rfl
  | succ k =>
   have hc := h0 c (by simp)
   unfold badAt
   rw [if_neg hc, ih (k := k) (by simpa using hk) (fun d hd => h0 d (by simp [hd])) (by simpa using h)]
   congr 1; omega
end Id
