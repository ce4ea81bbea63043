/- A value semantics of the loaded code, its soundness, and walks through functions over it. -/
import Derived.Test.YtjihneefmhjllaaDoorTyR5D
import Derived.Test.YtjihneefmhjllaaDoorLvAll6
import Derived.Test.YtjihneefmhjllaaDoorLvAll8
import Derived.Test.YtjihneefmhjllaaDoorLvAll9
import Derived.Test.YtjihneefmhjllaaDoorLvAll10
import Derived.Test.YtjihneefmhjllaaDoorPunyAllax0
import Derived.Shelf.Vars
import Derived.Test.YtjihneefmhjllaaDoorLvAll11
import Derived.Test.YtjihneefmhjllaaDoorLvAll12
import Derived.Test.YtjihneefmhjllaaDoorLvAll13
set_option linter.unusedVariables false
namespace Go.Proofs
open Go.Lv
def okL : List Nat := [3,4,5,6,7,8,9,10,11,12,13,14,15,16,18,19,20,21,22,23,24,25,26,27,28,29,31,32,33,34,35,36,37,41,42,43,44,45,46,47,48,49,50,51,52,53,54,55,57,58,59,61,62,64,65,66,69,70,71,72,76,77,78]
def cfg0 : Cfg := { ext := fun f => if f = 60 then some (fun args H => insertA H args) else if f = 63 then some (fun args H => growT 8 H args) else if f = 17 then some (fun args H => joinT H args) else if f = 30 then some (fun args H => splitT H args) else none, ok := fun f => okL.contains f, sig := fun f => if f = 60 then insertSig else if f = 47 then { ps := [some 1], rs := [(0, 1)] } else if f = 45 then { ps := [some 1], rs := [(0, 1)] } else if f = 63 then cloneSig 1 else if f = 35 then { ps := [], rs := [(0, 1)] } else {}, muF := fun f d => if f = 32 then (d == 5 || d == 43) else if f = 28 then (d == 6 || d == 46 || d == 140) else false, fzF := fun f d => if f = 32 then (d == 2) else if f = 28 then (d == 2) else false, tkF := fun f d => false, raw := fun f => f == 60 || f == 63, dyn := fun f => f == 43 }
def closedL : List Nat := [5]
def cfg : Cfg := { cfg0 with ext := fun f => if closedL.contains f = true then some (fun args H => closedT true H args) else cfg0.ext f }
end Go.Proofs
