/- Walks: the document's kinds of signs; texts. -/
import Derived.Test.YtiboedaicjkfnaaGreatDoorIdR
set_option linter.unusedVariables false
set_option linter.unusedSimpArgs false
namespace Go.Proofs
open Go.Lv
namespace In
open Pu
variable {H : Heap}
end In
end Go.Proofs
