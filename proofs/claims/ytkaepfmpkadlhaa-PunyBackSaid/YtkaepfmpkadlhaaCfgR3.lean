/- A value semantics of the loaded code, its soundness, and walks through functions over it. -/
import Derived.Test.YtkaepfmpkadlhaaTyR3
import Derived.Test.YtkaepfmpkadlhaaLvAll6
import Derived.Test.YtkaepfmpkadlhaaLvAll7
import Derived.Test.YtkaepfmpkadlhaaLvAll9
import Derived.Test.YtkaepfmpkadlhaaPunyAllax0
set_option linter.unusedVariables false
namespace Go.Proofs
open Go.Lv
def okL : List Nat := [3,4,5,6,7,8,9,10,11,12,13,14,15,16,17,18,19,20,21,22,23,24,25,26,27,28,29,30,32,33,34,35,36,37,38,39,41,42,43,44,45,46,49,50,51,52,53,56,61]
def cfg0 : Cfg := { ext := fun f => if f = 31 then some (fun args H => insertA H args) else none, ok := fun f => okL.contains f, sig := fun f => if f = 31 then insertSig else if f = 23 then { ps := [some 1], rs := [(0, 1)] } else {}, muF := fun f d => if f = 13 then (d == 5 || d == 43) else if f = 14 then (d == 6 || d == 46 || d == 140) else if f = 4 then (d == 54 || d == 101) else false, fzF := fun f d => if f = 13 then (d == 2) else if f = 14 then (d == 2) else false, tkF := fun f d => false, raw := fun f => f == 31 }
def closedL : List Nat := [9]
def cfg : Cfg := { cfg0 with ext := fun f => if closedL.contains f = true then some (fun args H => closedT true H args) else cfg0.ext f }
end Go.Proofs
