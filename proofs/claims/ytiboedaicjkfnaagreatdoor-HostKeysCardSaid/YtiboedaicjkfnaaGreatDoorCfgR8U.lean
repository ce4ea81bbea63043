/- A value semantics of the loaded code, its soundness, and walks through functions over it. -/
import Derived.Test.YtiboedaicjkfnaaGreatDoorTyR8U
import Derived.Test.YtiboedaicjkfnaaGreatDoorLvAll8
import Derived.Test.YtiboedaicjkfnaaGreatDoorLvAll10
import Derived.Test.YtiboedaicjkfnaaGreatDoorLvAll11
import Derived.Test.YtiboedaicjkfnaaGreatDoorLvAll12
import Derived.Test.YtiboedaicjkfnaaGreatDoorPunyAllax0
import Derived.Shelf.Vars
import Derived.Test.YtiboedaicjkfnaaGreatDoorLvAll13
import Derived.Test.YtiboedaicjkfnaaGreatDoorLvAll14
import Derived.Test.YtiboedaicjkfnaaGreatDoorLvAll16
import Derived.Test.YtiboedaicjkfnaaGreatDoorLvAll15
set_option linter.unusedVariables false
namespace Go.Proofs
open Go.Lv
def okL : List Nat := [3,4,5,6,7,8,9,10,11,12,13,14,15,16,17,18,19,20,21,24,25,26,27,28,29,30,31,32,33,34,35,36,38,43,44,45,46,47,48,49,50,51,52,53,54,56,57,58,59,60,61,62,63,64,66,67,71,72,73,74,75,76,77,78,79,80,81,82,85,86,87,88,89,90,91,92,93,94,95,96,98,99,100,101,104,105,106,107,108,109,110,111,112,113,116,117,119,120,121,122,123,124,125,126,127,128,129,130,131,132,133,135,136,137,138,139,140,141,142,149,150,151,153,154,161,162]
def cfg0 : Cfg := { ext := fun f => if f = 152 then some (fun args H => insertA H args) else if f = 118 then some (fun args H => growT 8 H args) else if f = 23 then some (fun args H => joinT H args) else if f = 84 then some (fun args H => splitT H args) else if f = 55 then some (fun args H => cutT H args) else if f = 37 then some (fun args H => indexByteT H args) else if f = 22 then some (fun args H => itoaT H args) else if f = 134 then some (fun args H => tzT H args) else none, ok := fun f => okL.contains f, sig := fun f => if f = 152 then insertSig else if f = 128 then { ps := [some 1], rs := [(0, 1)] } else if f = 125 then { ps := [some 1], rs := [(0, 1)] } else if f = 118 then cloneSig 1 else if f = 87 then { ps := [], rs := [(0, 1)] } else {}, muF := fun f d => if f = 30 then (d == 62 || d == 64 || d == 68 || d == 70) else if f = 126 then (d == 5 || d == 43) else if f = 113 then (d == 6 || d == 46 || d == 140) else if f = 101 then (d == 100 || d == 101) else if f = 10 then (d == 12 || d == 15 || d == 21) else false, fzF := fun f d => if f = 126 then (d == 2) else if f = 113 then (d == 2) else false, tkF := fun f d => if f = 101 then (d == 98) else false, raw := fun f => f == 152 || f == 118, dyn := fun f => f == 123 }
def closedL : List Nat := [7]
def cfg : Cfg := { cfg0 with ext := fun f => if closedL.contains f = true then some (fun args H => closedT true H args) else cfg0.ext f }
end Go.Proofs
