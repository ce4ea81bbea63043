/- Walks: hosts. -/
import Derived.Test.YtfkjkmjkfnephaaGreatDoorHoAllbx1
import Derived.Test.YtfkjkmjkfnephaaGreatDoorIdAllax0
import Derived.Lib.ItoaNum
import Derived.Test.YtfkjkmjkfnephaaGreatDoorLvAll17
set_option linter.unusedVariables false
set_option linter.unusedSimpArgs false
namespace Go.Proofs
open Go.Lv
namespace Hs
open Pu Ut Utf In
variable {H : Heap}
def hcells (k : Int) (n : List UInt8) (v : Int) (l : List Int) : List AV := [.i k, .str n, .v (.int .u32 v)] ++ l.map uA
def hz0 : List AV := hcells 0 [] 0 (Ho.zeros 8)
def brk (s : List UInt8) : List AV × Int :=
 if s.length < 2 ∨ s.getD (s.length - 1) 0 ≠ 93 then (hz0, 4)
 else if (Ho.p6 ((s.take (s.length - 1)).drop 1)).2 ≠ 0 then (hz0, (Ho.p6 ((s.take (s.length - 1)).drop 1)).2)
 else (hcells 3 [] 0 (Ho.p6 ((s.take (s.length - 1)).drop 1)).1, 0)
theorem hcells_len {k v : Int} {n : List UInt8} {l : List Int} (h : l.length = 8) : (hcells k n v l).length = 11 := by simp [hcells, h]
theorem hcells_one {k v : Int} {n : List UInt8} {l : List Int} : (hcells k n v l).all AV.one = true := by
 unfold hcells
 rw [List.all_append, one_u]; rfl
section
variable {P : Program} {xs ys : List AV} {t : TypeId} {T : Heap}
end
def dom (s : List UInt8) : List AV × Int :=
 if (Id.toASCII (Ho.lossy (Ho.dec s))).2 ≠ 0 then (hz0, (Id.toASCII (Ho.lossy (Ho.dec s))).2)
 else if (Id.toASCII (Ho.lossy (Ho.dec s))).1 = [] then (hz0, 6)
 else if bad (Id.toASCII (Ho.lossy (Ho.dec s))).1 = true ∨ lows (Id.toASCII (Ho.lossy (Ho.dec s))).1 = true then (hz0, 4)
 else if Ho.ends (Id.toASCII (Ho.lossy (Ho.dec s))).1 = false then (hcells 1 (Id.toASCII (Ho.lossy (Ho.dec s))).1 0 (Ho.zeros 8), 0)
 else if (Ho.p4 8589934592 (Id.toASCII (Ho.lossy (Ho.dec s))).1).2 ≠ 0 then (hz0, (Ho.p4 8589934592 (Id.toASCII (Ho.lossy (Ho.dec s))).1).2)
 else (hcells 2 [] (IntKind.u32.wrap (Ho.p4 8589934592 (Id.toASCII (Ho.lossy (Ho.dec s))).1).1) (Ho.zeros 8), 0)
end Hs
end Go.Proofs
/- Walks: a host, the program's side. -/
set_option linter.unusedVariables false
set_option linter.unusedSimpArgs false
namespace Go.Proofs
open Go.Lv
namespace Hs
open Pu Ut Utf In
variable {H : Heap}
def prs (s : List UInt8) (sp : Bool) : List AV × Int :=
 if 4000 < s.length then (hz0, 3) else if s.take 1 = [91] then brk s else if sp = true then dom s
 else if bad s = true then (hz0, 4) else if s = [] then (hz0, 0) else (hcells 4 (Ho.enc s) 0 (Ho.zeros 8), 0)
end Hs
end Go.Proofs
set_option linter.unusedVariables false
set_option linter.unusedSimpArgs false
namespace Ho
open Go
end Ho
/- Walks: a host, the document's side. -/
set_option linter.unusedVariables false
set_option linter.unusedSimpArgs false
namespace Go.Proofs
open Go.Lv
namespace Hs
open Pu Ut Utf In
variable {H : Heap}
end Hs
end Go.Proofs
set_option linter.unusedVariables false
set_option linter.unusedSimpArgs false
namespace Ho
open Go
def ch (k : Int) : UInt8 := UInt8.ofNat (48 + k.toNat)
def d3 (v : Int) : List UInt8 := if v < 10 then [ch v] else if v < 100 then [ch (v / 10), ch (v % 10)] else [ch (v / 100), ch (v / 10 % 10), ch (v % 10)]
def hd (k : Int) : UInt8 := HEX.getD k.toNat 0
def hx (v : Int) : List UInt8 := if v < 16 then [hd v] else if v < 256 then [hd (v / 16), hd (v % 16)] else if v < 4096 then [hd (v / 256), hd (v / 16 % 16), hd (v % 16)] else [hd (v / 4096), hd (v / 256 % 16), hd (v / 16 % 16), hd (v % 16)]
def q4 (v : Int) : List Int := [v / 16777216, v / 65536 % 256, v / 256 % 256, v % 256]
def pr4 (v : Int) : List UInt8 := Sp.join [46] ((q4 v).map d3)
def zstep (x : Int) (s : Int × Int × Int × Int) : Int × Int × Int × Int :=
 let n := if x = 0 then s.2.2.1 + 1 else 0
 if s.2.1 < n then (s.2.2.2 + 1 - n, n, n, s.2.2.2 + 1) else (s.1, s.2.1, n, s.2.2.2 + 1)
def zr (l : List Int) : Int × Int := let s := l.foldl (fun s x => zstep x s) (0, 0, 0, 0); (s.1, s.2.1)
def tx6 (l : List Int) : List UInt8 := Sp.join [58] (l.map hx)
def pr6 (l : List Int) : List UInt8 := if (zr l).2 < 2 then tx6 l else tx6 (l.take (zr l).1.toNat) ++ DC ++ tx6 (l.drop ((zr l).1 + (zr l).2).toNat)
end Ho
set_option linter.unusedVariables false
set_option linter.unusedSimpArgs false
namespace Ho
open Go
def u16s (l : List Int) : Prop := ∀ v ∈ l, 0 ≤ v ∧ v < 65536
end Ho
/- Walks: numbers as texts, the program's side. -/
set_option linter.unusedVariables false
set_option linter.unusedSimpArgs false
namespace Go.Proofs
open Go.Lv
namespace Hs
variable {H : Heap}
def dg (v : Int) : Nat → List UInt8
 | 0 => []
 | 1 => [Ho.hd (v % 16)]
 | 2 => [Ho.hd (v / 16 % 16), Ho.hd (v % 16)]
 | 3 => [Ho.hd (v / 256 % 16), Ho.hd (v / 16 % 16), Ho.hd (v % 16)]
 | _ => [Ho.hd (v / 4096 % 16), Ho.hd (v / 256 % 16), Ho.hd (v / 16 % 16), Ho.hd (v % 16)]
def row65 (v : Int) (k : Nat) : List AV := (List.replicate (65 - k) 0 ++ dg v k).map byteA
def D36 : List UInt8 := [48, 49, 50, 51, 52, 53, 54, 55, 56, 57, 97, 98, 99, 100, 101, 102, 103, 104, 105, 106, 107, 108, 109, 110, 111, 112, 113, 114, 115, 116, 117, 118, 119, 120, 121, 122]
theorem dgt {P : Program} {q : Int} (h0 : 0 ≤ q) (h1 : q < 16) : indexD P (some TypeDesc.string) (AV.str D36) (.v (.int .u64 q)) = some (.v (.int .u8 (Ho.hd q).toNat)) := by
 obtain rfl | rfl | rfl | rfl | rfl | rfl | rfl | rfl | rfl | rfl | rfl | rfl | rfl | rfl | rfl | rfl : q = 0 ∨ q = 1 ∨ q = 2 ∨ q = 3 ∨ q = 4 ∨ q = 5 ∨ q = 6 ∨ q = 7 ∨ q = 8 ∨ q = 9 ∨ q = 10 ∨ q = 11 ∨ q = 12 ∨ q = 13 ∨ q = 14 ∨ q = 15 := by omega
 all_goals rfl
theorem st65 {l m : List UInt8} {off : Nat} {c : UInt8} (ho : off < l.length) (hm : (l.map byteA).set off (byteA c) = m.map byteA) : storeS (H ++ [l.map byteA]) H.length off (.v (.int .u8 c.toNat)) (l.map byteA) = some (H ++ [m.map byteA]) := by
 unfold storeS
 rw [if_pos (by simpa using ho), if_pos (plainRow_one (all_cell1 l))]
 rw [show (AV.v (.int .u8 c.toNat)) = byteA c from rfl, hm]
 simp
def by65 (v : Int) (k : Nat) : List UInt8 := List.replicate (65 - k) 0 ++ dg v k
theorem s1 {v : Int} : storeS (H ++ [row65 v 1]) H.length 63 (.v (.int .u8 (Ho.hd (v / 16 % 16)).toNat)) (row65 v 1) = some (H ++ [row65 v 2]) := st65 (l := by65 v 1) (m := by65 v 2) (by show 63 < 65; decide) rfl
theorem s2 {v : Int} : storeS (H ++ [row65 v 2]) H.length 62 (.v (.int .u8 (Ho.hd (v / 256 % 16)).toNat)) (row65 v 2) = some (H ++ [row65 v 3]) := st65 (l := by65 v 2) (m := by65 v 3) (by show 62 < 65; decide) rfl
theorem s3 {v : Int} : storeS (H ++ [row65 v 3]) H.length 61 (.v (.int .u8 (Ho.hd (v / 4096 % 16)).toNat)) (row65 v 3) = some (H ++ [row65 v 4]) := st65 (l := by65 v 3) (m := by65 v 4) (by show 61 < 65; decide) rfl
section
variable {P : Program} {t u e : TypeId}
end
end Hs
end Go.Proofs
/- Walks: machines as texts, the program's side. -/
set_option linter.unusedVariables false
set_option linter.unusedSimpArgs false
namespace Go.Proofs
open Go.Lv
namespace Hs
open Pu Ut Utf In
variable {H : Heap}
end Hs
end Go.Proofs
/- Walks: two hosts that are the same. -/
set_option linter.unusedVariables false
set_option linter.unusedSimpArgs false
namespace Go.Proofs
open Go.Lv
namespace Hs
open Pu Ut Utf In
variable {H : Heap}
end Hs
end Go.Proofs
