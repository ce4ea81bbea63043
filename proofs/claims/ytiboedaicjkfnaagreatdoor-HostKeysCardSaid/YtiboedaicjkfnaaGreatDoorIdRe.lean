/- Walks: the document's names; texts cut. -/
import Derived.Test.YtiboedaicjkfnaaGreatDoorIdRd
set_option linter.unusedVariables false
set_option linter.unusedSimpArgs false
namespace Go.Proofs
open Go.Lv
namespace In
open Pu Ut
variable {H : Heap}
end In
end Go.Proofs
