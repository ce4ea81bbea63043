/- Walks: whose suffix a name has, the document's side. -/
import Derived.Test.YtfkjkmjkfnephaaGreatDoorSiA
set_option linter.unusedVariables false
set_option linter.unusedSimpArgs false
namespace Go.Proofs
open Go.Lv
namespace Hs
open Pu Ut Utf In
variable {H : Heap}
end Hs
end Go.Proofs
