/- Walks: signs as bytes. -/
import Derived.Test.YtfkjkmjkfnephaaGreatDoorPunyAllbx0
import Derived.Test.YtfkjkmjkfnephaaGreatDoorUtSpec
set_option linter.unusedVariables false
set_option linter.unusedSimpArgs false
namespace Go.Proofs
open Go.Lv
namespace Ut
open Pu Utf
variable {H : Heap}
theorem bin_orI {P : Program} {xt : TypeId} {a b : Int} : bin P .or xt (.i a) (.i b) = some (.i (orI a b)) := rfl
theorem bin_andI {P : Program} {xt : TypeId} {a b : Int} : bin P .and xt (.i a) (.i b) = some (.i (andI a b)) := rfl
end Ut
end Go.Proofs
