/- Walks: the document's signs. -/
import Derived.Test.YtiboedaicjkfnaaGreatDoorIdH
import Derived.Test.YtiboedaicjkfnaaGreatDoorLvAll15
set_option linter.unusedVariables false
set_option linter.unusedSimpArgs false
namespace Go.Proofs
open Go.Lv
namespace In
open Pu
variable {H : Heap}
end In
end Go.Proofs
