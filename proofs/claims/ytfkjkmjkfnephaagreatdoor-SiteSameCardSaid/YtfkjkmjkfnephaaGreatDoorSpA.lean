/- Walks: texts cut at a sign; prefixes. -/
import Derived.Test.YtfkjkmjkfnephaaGreatDoorUtA
import Derived.Test.YtfkjkmjkfnephaaGreatDoorLvAll13
set_option linter.unusedVariables false
set_option linter.unusedSimpArgs false
namespace Go.Proofs
open Go.Lv
namespace Ut
open Pu
variable {H : Heap}
end Ut
end Go.Proofs
