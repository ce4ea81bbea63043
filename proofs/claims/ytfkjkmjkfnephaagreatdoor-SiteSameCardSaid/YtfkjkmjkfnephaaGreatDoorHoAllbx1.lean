/- A value semantics of the loaded code, its soundness, and walks through functions over it. -/
import Derived.Test.YtfkjkmjkfnephaaGreatDoorHoAllbx0
import Derived.Lib.IndexMore
set_option linter.unusedVariables false
set_option linter.unusedSimpArgs false
namespace Ho
open Go
def DC : List UInt8 := [58, 58]
def zeros (n : Nat) : List Int := List.replicate n 0
def b6 (s : List UInt8) : Option (List Int) :=
 if (Lib.cut s DC).2.2 = true then (list6 false (Lib.cut s DC).1).bind fun a => (list6 true (Lib.cut s DC).2.1).bind fun b => if a.length + b.length ≤ 7 then some (a ++ zeros (8 - a.length - b.length) ++ b) else none
 else (list6 true s).bind fun a => if a.length = 8 then some a else none
def p6 (s : List UInt8) : List Int × Int := if 4000 < s.length then (zeros 8, 11) else match b6 s with
 | some l => (l, 0)
 | none => (zeros 8, 4)
theorem cut_none {s : List UInt8} (h : ∀ j, j ≤ s.length → Lib.occAt s DC j = false) : Lib.cut s DC = (s, [], false) := by
 unfold Lib.cut
 rw [Lib.index_none h, if_neg (by omega)]
end Ho
/- Walks: numbers of eight pieces. -/
set_option linter.unusedVariables false
set_option linter.unusedSimpArgs false
namespace Go.Proofs
open Go.Lv
namespace Hs
open Pu Ut Utf
variable {H : Heap}
section
variable {P : Program} {a : List AV} {vs ys : List Int} {t e u e' : TypeId}
theorem g2b {b : List AV} : (H ++ [a] ++ [b])[H.length + 1]? = some b := by simp
theorem g2a {b : List AV} : (H ++ [a] ++ [b])[H.length]? = some a := by simp
theorem one_u : (vs.map uA).all AV.one = true := List.all_eq_true.2 fun c hc => by obtain ⟨x, _, rfl⟩ := List.mem_map.1 hc; rfl
end
end Hs
end Go.Proofs
/- Walks: numbers of eight pieces, the document's side. -/
set_option linter.unusedVariables false
set_option linter.unusedSimpArgs false
namespace Go.Proofs
open Go.Lv
namespace Hs
open Pu Ut Utf
variable {H : Heap}
section
variable {P : Program} {a : List AV} {vs ys : List Int} {t e u e' : TypeId}
end
end Hs
end Go.Proofs
/- Walks: signs that a host may not hold. -/
set_option linter.unusedVariables false
set_option linter.unusedSimpArgs false
namespace Go.Proofs
open Go.Lv
namespace Hs
open Pu Ut Utf
variable {H : Heap}
def BAD : List UInt8 := [0, 9, 10, 13, 32, 35, 47, 58, 60, 62, 63, 64, 91, 92, 93, 94, 124]
def bad (s : List UInt8) : Bool := s.any fun c => decide (c ∈ BAD)
def lows (s : List UInt8) : Bool := s.any fun c => decide (c.toNat < 32 ∨ c.toNat = 37 ∨ c.toNat = 127)
end Hs
end Go.Proofs
