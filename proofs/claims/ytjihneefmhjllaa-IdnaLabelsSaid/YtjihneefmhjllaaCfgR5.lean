/- A value semantics of the loaded code, its soundness, and walks through functions over it. -/
import Derived.Test.YtjihneefmhjllaaTyR5
import Derived.Test.YtjihneefmhjllaaLvAll6
import Derived.Test.YtjihneefmhjllaaLvAll8
import Derived.Test.YtjihneefmhjllaaLvAll9
import Derived.Test.YtjihneefmhjllaaLvAll10
import Derived.Test.YtjihneefmhjllaaPunyAllax0
import Derived.Test.YtjihneefmhjllaaLvAll11
import Derived.Test.YtjihneefmhjllaaLvAll12
set_option linter.unusedVariables false
namespace Go.Proofs
open Go.Lv
def okL : List Nat := [3,4,5,6,7,8,9,10,11,12,13,14,15,16,17,18,19,21,22,23,24,25,26,27,28,29,30,31,32,33,37,38,39,40,41,46,47]
def cfg0 : Cfg := { ext := fun f => if f = 42 then some (fun args H => insertA H args) else if f = 43 then some (fun args H => growT 8 H args) else if f = 20 then some (fun args H => joinT H args) else none, ok := fun f => okL.contains f, sig := fun f => if f = 42 then insertSig else if f = 23 then { ps := [some 1], rs := [(0, 1)] } else if f = 30 then { ps := [some 1], rs := [(0, 1)] } else if f = 43 then cloneSig 1 else if f = 32 then { ps := [], rs := [(0, 1)] } else {}, muF := fun f d => if f = 31 then (d == 5 || d == 43) else false, fzF := fun f d => if f = 31 then (d == 2) else false, tkF := fun f d => false, raw := fun f => f == 42 || f == 43, dyn := fun f => f == 29 }
def closedL : List Nat := [5]
def cfg : Cfg := { cfg0 with ext := fun f => if closedL.contains f = true then some (fun args H => closedT true H args) else cfg0.ext f }
end Go.Proofs
