/- A value semantics of the loaded code, its soundness, and walks through functions over it. -/
import Derived.Test.YtfkjkmjkfnephaaGreatDoorLvAll13
import Derived.Shelf.Strconv.Itoa3
import Derived.Shelf.Spec.TrailingZeros
set_option linter.unusedVariables false
set_option linter.unusedSimpArgs false
namespace Go.Lv
open Go.Proofs Go.Shelf
open Go.RowKit (Below)
section
variable {P : Program} {H : Heap}
end
end Go.Lv
