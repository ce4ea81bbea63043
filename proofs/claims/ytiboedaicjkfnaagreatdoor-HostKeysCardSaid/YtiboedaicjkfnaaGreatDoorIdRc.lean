/- Walks: the document's texts, labels. -/
import Derived.Test.YtiboedaicjkfnaaGreatDoorIdRb
set_option linter.unusedVariables false
set_option linter.unusedSimpArgs false
namespace Go.Proofs
open Go.Lv
namespace In
open Pu Ut
variable {H : Heap}
end In
end Go.Proofs
