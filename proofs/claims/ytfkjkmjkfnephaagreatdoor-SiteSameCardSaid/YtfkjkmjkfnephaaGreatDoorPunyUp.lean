/- A value semantics of the loaded code, its soundness, and walks through functions over it. -/
import Derived.Test.YtfkjkmjkfnephaaGreatDoorPunyRound
set_option linter.unusedVariables false
set_option linter.unusedSimpArgs false
namespace Go.Puny
def up (c : UInt8) : UInt8 := if 97 ≤ c.toNat ∧ c.toNat ≤ 122 then c - 32 else c
def cur (s : List UInt8) (own i : Nat) : List UInt8 := s.take own ++ ((s.take i).drop own).map up ++ s.drop i
end Go.Puny
