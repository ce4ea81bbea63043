/- A value semantics of the loaded code, its soundness, and walks through functions over it. -/
import Derived.Test.YtfkjkmjkfnephaaGreatDoorPunyAllax0
import Derived.Test.YtfkjkmjkfnephaaGreatDoorLvAll8
import Derived.Test.YtfkjkmjkfnephaaGreatDoorPunyRound
import Derived.Test.YtfkjkmjkfnephaaGreatDoorUtSpec
import Derived.Test.YtfkjkmjkfnephaaGreatDoorSpSpec
import Derived.Test.YtfkjkmjkfnephaaGreatDoorPunyAllbx0
import Derived.Test.YtfkjkmjkfnephaaGreatDoorLvAll10
import Derived.Test.YtfkjkmjkfnephaaGreatDoorUtA
import Derived.Test.YtfkjkmjkfnephaaGreatDoorLvAll13
set_option linter.unusedVariables false
set_option linter.unusedSimpArgs false
namespace Id
open Go
def within (c lo hi : Int) : Bool := decide (lo ≤ c) && decide (c ≤ hi)
def ignored (c : Int) : Bool := decide (c = 173) || decide (c = 8203) || decide (c = 8288) || within c 65024 65039 || decide (c = 65279)
def low (c : Int) : Int := IntKind.i64.wrap ((BitVec.ofInt 64 c &&& BitVec.ofInt 64 65535).toNat : Int)
def odd (c : Int) : Int := IntKind.i64.wrap ((BitVec.ofInt 64 c &&& BitVec.ofInt 64 1).toNat : Int)
def forbidden (c : Int) : Bool := !Puny.scalar c || within c 128 160 || within c 57344 63743 || within c 64976 65007 || decide (983040 ≤ c) || decide (65534 ≤ low c)
def single (c : Int) : List Int :=
 if c = 304 then [105, 775] else if c = 329 then [700, 110] else if c = 376 then [255] else if c = 383 then [115]
 else if c = 12290 ∨ c = 65294 ∨ c = 65377 then [46] else if c = 170 then [97] else if c = 186 then [111] else if c = 178 ∨ c = 179 then [c - 128] else if c = 185 then [49] else if c = 8462 then [104] else []
def more (c : Int) : Int :=
 if (Id.within c 65 90 || (Id.within c 192 222 && decide (c ≠ 215)) || (Id.within c 913 937 && decide (c ≠ 930)) || Id.within c 1040 1071) = true then 32
 else if Id.within c 1024 1039 = true then 80
 else if (Id.within c 256 311 || Id.within c 330 375) = true then 1 - odd c
 else if (Id.within c 313 328 || Id.within c 377 382) = true then odd c
 else 0
def maps (c : Int) : List Int :=
 if 0 < (single c).length then single c
 else if 0 < more c then [c + more c]
 else if Id.within c 65281 65374 = true then [c - 65248 + more (c - 65248)]
 else if Id.within c 9312 9320 = true then [49 + c - 9312]
 else []
def kind (c : Int) : Int := if ignored c = true then 3 else if forbidden c = true then 4 else if 0 < (maps c).length then 2 else 1
def high (c : Int) : Bool := decide (c < 0) || decide (128 ≤ c)
def plain (l : List Int) : Bool := l.all fun c => !high c
def XN : List Int := [120, 110, 45, 45]
def XNb : List UInt8 := [120, 110, 45, 45]
def marked (l : List Int) : Bool := decide (l.take 4 = XN)
open Utf in
theorem ints_asc {l : List Int} (h : Id.plain l = true) : Puny.ints (asc l) = l := by
 unfold Puny.ints asc
 rw [List.map_map]
 conv => rhs; rw [← List.map_id l]
 refine List.map_congr_left fun c hc => ?_
 have := List.all_eq_true.1 h c hc
 simp [Id.high] at this
 simp [UInt8.toNat_ofNat']
 omega
theorem plain_bnd {l : List Int} (h : Id.plain l = true) : ∀ c ∈ l, 0 ≤ c ∧ c < 128 := by
 intro c hc
 have := List.all_eq_true.1 h c hc
 simp [Id.high] at this
 omega
theorem text_marked (l : List Int) : decide ((Utf.text l).take 4 = XNb) = marked l := by
 have := Utf.text_take_low XNb l (by intro b hb; simp [XNb] at hb; rcases hb with rfl | rfl | rfl <;> decide)
 unfold marked
 exact decide_eq_decide.2 this
theorem more_range {c : Int} (h : 0 < more c) : 65 ≤ c := by
 unfold more at h
 split at h
 ·rename_i h1; simp [within] at h1; omega
 ·split at h
  ·rename_i h1; simp [within] at h1; omega
  ·split at h
   ·rename_i h1; simp [within] at h1; omega
   ·split at h
    ·rename_i h1; simp [within] at h1; omega
    ·omega
def sound (rest : List UInt8) : Bool :=
 decide ((Puny.decode rest).2 = 0) && !plain (Puny.decode rest).1 && !marked (Puny.decode rest).1 && (Puny.decode rest).1.all (fun c => decide (kind c = 1)) && decide ((Puny.encode (Puny.decode rest).1).2 = 0) && decide ((Puny.encode (Puny.decode rest).1).1 = rest)
def label (l : List Int) : List UInt8 × Int :=
 if (plain l && !marked l) = true then (Utf.asc l, 0)
 else if plain l = true then (if sound ((Utf.asc l).drop 4) = true then (Utf.asc l, 0) else ([], 4))
 else if marked l = true then ([], 4)
 else if (Puny.encode l).2 = 0 then (XNb ++ (Puny.encode l).1, 0) else ([], (Puny.encode l).2)
def to (c : Int) : List Int := if kind c = 1 then [c] else if kind c = 2 then maps c else []
def badAt : List Int → Nat → Option Nat
 | [], _ => none
 | c :: r, i => if kind c = 4 then some i else badAt r (i + 1)
def mapG (l : List Int) : List Int × Int × Bool :=
 match badAt l 0 with
 | some i => ([], i, false)
 | none => (l.flatMap to, 0, true)
def labels : List (List Int) → List (List UInt8) × Int
 | [] => ([], 0)
 | x :: r => if (label x).2 = 0 then (if (labels r).2 = 0 then ((label x).1 :: (labels r).1, 0) else ([], (labels r).2)) else ([], (label x).2)
def toASCII (l : List Int) : List UInt8 × Int :=
 if 256 < l.length then ([], 11)
 else if (mapG l).2.2 = false then ([], 4)
 else if (labels (Sp.split 46 (mapG l).1)).2 ≠ 0 then ([], (labels (Sp.split 46 (mapG l).1)).2)
 else if 253 < (Sp.join [46] (labels (Sp.split 46 (mapG l).1)).1).length then ([], 3)
 else (Sp.join [46] (labels (Sp.split 46 (mapG l).1)).1, 0)
theorem labels_ok {p : List (List Int)} (h : ∀ x ∈ p, (label x).2 = 0) : labels p = (p.map fun x => (label x).1, 0) := by
 induction p with
 | nil => rfl
 | cons x r ih =>
  unfold labels
  rw [if_pos (h x (by simp)), ih fun y hy => h y (by simp [hy]), if_pos rfl]; rfl
def uni1 (x : List UInt8) : List Int := if x.take 4 = XNb ∧ (Puny.decode (x.drop 4)).2 = 0 then (Puny.decode (x.drop 4)).1 else Puny.ints x
def toUni (s : List UInt8) : List Int := Sp.join [46] ((Sp.split 46 s).map uni1)
theorem badAt_none {l : List Int} {i : Nat} : badAt l i = none ↔ ∀ c ∈ l, kind c ≠ 4 := by
 induction l generalizing i with
 | nil => simp [badAt]
 | cons c r ih =>
  unfold badAt
  split
  ·rename_i h; simp [h]
  ·rename_i h; rw [ih]; simp [h]
end Id
/- Walks: which signs names may have. -/
set_option linter.unusedVariables false
set_option linter.unusedSimpArgs false
namespace Go.Proofs
open Go.Lv
namespace In
open Pu
variable {H : Heap}
end In
end Go.Proofs
/- Walks: plain signs. -/
set_option linter.unusedVariables false
set_option linter.unusedSimpArgs false
namespace Go.Proofs
open Go.Lv
namespace In
open Pu
variable {H : Heap}
end In
end Go.Proofs
/- Walks: a text's bytes as signs. -/
set_option linter.unusedVariables false
set_option linter.unusedSimpArgs false
namespace Go.Proofs
open Go.Lv
namespace In
open Pu
variable {H : Heap}
end In
end Go.Proofs
/- Walks: the mark. -/
set_option linter.unusedVariables false
set_option linter.unusedSimpArgs false
namespace Go.Proofs
open Go.Lv
namespace In
open Pu
variable {H : Heap}
end In
end Go.Proofs
/- Walks: slices of signs searched, laid behind each other, mapped, cut. -/
set_option linter.unusedVariables false
set_option linter.unusedSimpArgs false
namespace Go.Proofs
open Go.Lv
namespace In
open Pu
variable {H : Heap}
end In
end Go.Proofs
/- Walks: fold.Map, slices.Index, cut. -/
set_option linter.unusedVariables false
set_option linter.unusedSimpArgs false
namespace Go.Proofs
open Go.Lv
namespace In
open Pu
variable {H : Heap}
end In
end Go.Proofs
/- Walks: what stands behind the mark; labels; names. -/
set_option linter.unusedVariables false
set_option linter.unusedSimpArgs false
namespace Go.Proofs
open Go.Lv
namespace In
open Pu
variable {H : Heap}
end In
end Go.Proofs
/- Walks: labels; names. -/
set_option linter.unusedVariables false
set_option linter.unusedSimpArgs false
namespace Go.Proofs
open Go.Lv
namespace In
open Pu
variable {H : Heap}
end In
end Go.Proofs
/- Walks: the document's signs. -/
set_option linter.unusedVariables false
set_option linter.unusedSimpArgs false
namespace Go.Proofs
open Go.Lv
namespace In
open Pu
variable {H : Heap}
end In
end Go.Proofs
/- Walks: the document's kinds of signs; texts. -/
set_option linter.unusedVariables false
set_option linter.unusedSimpArgs false
namespace Go.Proofs
open Go.Lv
namespace In
open Pu
variable {H : Heap}
end In
end Go.Proofs
/- Walks: the document's texts, labels. -/
set_option linter.unusedVariables false
set_option linter.unusedSimpArgs false
namespace Go.Proofs
open Go.Lv
namespace In
open Pu Ut
variable {H : Heap}
end In
end Go.Proofs
/- Walks: the document's labels and names. -/
set_option linter.unusedVariables false
set_option linter.unusedSimpArgs false
namespace Go.Proofs
open Go.Lv
namespace In
open Pu Ut
variable {H : Heap}
end In
end Go.Proofs
/- Walks: the document's names; texts cut. -/
set_option linter.unusedVariables false
set_option linter.unusedSimpArgs false
namespace Go.Proofs
open Go.Lv
namespace In
open Pu Ut
variable {H : Heap}
end In
end Go.Proofs
