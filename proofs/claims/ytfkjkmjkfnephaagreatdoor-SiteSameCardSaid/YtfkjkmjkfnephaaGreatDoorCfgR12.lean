/- A value semantics of the loaded code, its soundness, and walks through functions over it. -/
import Derived.Test.YtfkjkmjkfnephaaGreatDoorTyR12
import Derived.Test.YtfkjkmjkfnephaaGreatDoorLvAll8
import Derived.Test.YtfkjkmjkfnephaaGreatDoorLvAll10
import Derived.Test.YtfkjkmjkfnephaaGreatDoorLvAll11
import Derived.Test.YtfkjkmjkfnephaaGreatDoorLvAll12
import Derived.Test.YtfkjkmjkfnephaaGreatDoorPunyAllax0
import Derived.Shelf.Vars
import Derived.Test.YtfkjkmjkfnephaaGreatDoorHoAllax0
import Derived.Test.YtfkjkmjkfnephaaGreatDoorLvAll14
import Derived.Test.YtfkjkmjkfnephaaGreatDoorLvAll15
import Derived.Test.YtfkjkmjkfnephaaGreatDoorLvAll16
import Derived.Test.YtfkjkmjkfnephaaGreatDoorLvAll13
set_option linter.unusedVariables false
namespace Go.Proofs
open Go.Lv
def okL : List Nat := [3,4,5,6,7,8,9,10,11,12,13,14,15,16,17,18,19,20,21,22,23,25,26,27,28,29,30,31,32,33,34,35,36,37,38,39,40,41,42,43,44,45,46,47,48,49,50,51,52,53,54,55,56,58,59,60,61,62,63,64,65,66,67,68,69,70,71,72,73,74,75,76,77,78,80,81,82,83,84,85,86,88,89,92,93,94,95,97,98,99,100,110,111,112,113,114,115,116,117,118,119,128,129,131,132,133,134,135,136,137,138,139,146,148,149,151]
def cfg0 : Cfg := { ext := fun f => if f = 147 then some (fun args H => insertA H args) else if f = 130 then some (fun args H => growT 8 H args) else if f = 96 then some (fun args H => joinT H args) else if f = 109 then some (fun args H => splitT H args) else if f = 91 then some (fun args H => cutT H args) else if f = 87 then some (fun args H => indexByteT H args) else if f = 79 then some (fun args H => replaceT H args) else if f = 24 then some (fun args H => deleteT 25 tabs H args) else if f = 57 then some (fun args H => cloneT 1 16 H args) else none, ok := fun f => okL.contains f, sig := fun f => if f = 147 then insertSig else if f = 138 then { ps := [some 1], rs := [(0, 1)] } else if f = 73 then { ps := [some 1], rs := [(0, 1)] } else if f = 130 then cloneSig 1 else if f = 112 then { ps := [], rs := [(0, 1)] } else {}, muF := fun f d => if f = 81 then (d == 62 || d == 64 || d == 68 || d == 70) else if f = 136 then (d == 5 || d == 43) else if f = 18 then (d == 6) else if f = 66 then (d == 26 || d == 39) else if f = 52 then (d == 5) else if f = 31 then (d == 27) else false, fzF := fun f d => if f = 136 then (d == 2) else if f = 18 then (d == 2) else false, tkF := fun f d => if f = 26 then (d == 15) else if f = 27 then (d == 25 || d == 52) else if f = 34 then (d == 12) else if f = 35 then (d == 23) else if f = 36 then (d == 41) else if f = 38 then (d == 41) else if f = 40 then (d == 19) else false, raw := fun f => f == 147 || f == 130 || f == 57, dyn := fun f => f == 135, alt := fun f => if f = 23 then some (fun args H => lossyMT H args) else if f = 57 then some (fun args H => cloneM 16 H args) else none }
def closedL : List Nat := [5]
def cfg : Cfg := { cfg0 with ext := fun f => if closedL.contains f = true then some (fun args H => closedT true H args) else cfg0.ext f }
end Go.Proofs
