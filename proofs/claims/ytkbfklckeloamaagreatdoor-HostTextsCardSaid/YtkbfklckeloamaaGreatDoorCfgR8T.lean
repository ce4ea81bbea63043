/- A value semantics of the loaded code, its soundness, and walks through functions over it. -/
import Derived.Test.YtkbfklckeloamaaGreatDoorTyR8T
import Derived.Test.YtkbfklckeloamaaGreatDoorLvAll7
import Derived.Test.YtkbfklckeloamaaGreatDoorLvAll9
import Derived.Test.YtkbfklckeloamaaGreatDoorLvAll10
import Derived.Test.YtkbfklckeloamaaGreatDoorLvAll11
import Derived.Test.YtkbfklckeloamaaGreatDoorPunyAllax0
import Derived.Shelf.Vars
import Derived.Test.YtkbfklckeloamaaGreatDoorLvAll12
import Derived.Test.YtkbfklckeloamaaGreatDoorLvAll13
import Derived.Test.YtkbfklckeloamaaGreatDoorLvAll14
set_option linter.unusedVariables false
namespace Go.Proofs
open Go.Lv
def okL : List Nat := [3,4,5,6,7,8,9,10,11,12,13,14,15,16,17,18,19,20,21,22,23,24,25,26,27,28,29,31,32,33,34,35,36,37,38,39,40,41,43,44,45,46,48,49,50,51,52,54,55,56,57,58,59,60,61,62,63,64,65,68,69,70,71,72,73,74,75,76,77,81,82,84,85,86,87,88,89,90,91,94,95,97,98,99,100,101,102,103,104,105,106,107,116,117,118,120,121,128,129]
def cfg0 : Cfg := { ext := fun f => if f = 119 then some (fun args H => insertA H args) else if f = 96 then some (fun args H => growT 8 H args) else if f = 47 then some (fun args H => joinT H args) else if f = 67 then some (fun args H => splitT H args) else if f = 42 then some (fun args H => cutT H args) else if f = 30 then some (fun args H => indexByteT H args) else none, ok := fun f => okL.contains f, sig := fun f => if f = 119 then insertSig else if f = 106 then { ps := [some 1], rs := [(0, 1)] } else if f = 103 then { ps := [some 1], rs := [(0, 1)] } else if f = 96 then cloneSig 1 else if f = 70 then { ps := [], rs := [(0, 1)] } else {}, muF := fun f d => if f = 23 then (d == 62 || d == 64 || d == 68 || d == 70) else if f = 104 then (d == 5 || d == 43) else if f = 65 then (d == 6 || d == 46 || d == 140) else false, fzF := fun f d => if f = 104 then (d == 2) else if f = 65 then (d == 2) else false, tkF := fun f d => false, raw := fun f => f == 119 || f == 96, dyn := fun f => f == 101 }
def closedL : List Nat := [4]
def cfg : Cfg := { cfg0 with ext := fun f => if closedL.contains f = true then some (fun args H => closedT true H args) else cfg0.ext f }
end Go.Proofs
