/- Walks: the document's labels and names. -/
import Derived.Test.YtiboedaicjkfnaaGreatDoorIdRc
set_option linter.unusedVariables false
set_option linter.unusedSimpArgs false
namespace Go.Proofs
open Go.Lv
namespace In
open Pu Ut
variable {H : Heap}
end In
end Go.Proofs
