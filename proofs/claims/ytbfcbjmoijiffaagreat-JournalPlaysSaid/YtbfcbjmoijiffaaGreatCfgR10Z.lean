/- A value semantics of the loaded code, its soundness, and walks through functions over it. -/
import Derived.Test.YtbfcbjmoijiffaaGreatTyR10Z
import Derived.Test.YtbfcbjmoijiffaaGreatLvAll12
import Derived.Test.YtbfcbjmoijiffaaGreatLvAll11
import Derived.Test.YtbfcbjmoijiffaaGreatLvAll10
set_option linter.unusedVariables false
namespace Go.Proofs
open Go.Lv
def okL : List Nat := [3,4,5,6,7,8,9,10,11,12,13,14,15,16,17,18,19,20,21,22,23,24,25,26,27,28,29,30,31,32,33,34,36,37,38,39,40,41,42,43,44,45,47,48,49,50,51,52,53,54,55,56,57,59,60,61,62,63,65,66,67,69,70,71,72,73,74,75,76,77,78,79,81,82,83,84,85,86,87,88,90,91,93,94,95,96,97]
def cfg0 : Cfg := { ext := fun f => if f = 35 then some (fun args H => cloneB H args) else if f = 68 then some (fun args H => cloneT 4 32 H args) else if f = 80 then some (fun args H => copiedT H args) else if f = 58 then some (fun args H => usedT H args) else if f = 92 then some (fun args H => equalT H args) else if f = 64 then some (fun args H => namesT H args) else if f = 46 then some (fun args H => equalT H args) else none, ok := fun f => okL.contains f, sig := fun f => if f = 35 then cloneSig 1 else if f = 81 then { ps := [], rs := [(0, 1)] } else if f = 95 then { ps := [], rs := [(1, 1)] } else if f = 39 then { ps := [], rs := [(0, 1)] } else if f = 64 then cloneSig 1 else if f = 66 then { ps := [], rs := [(1, 1)] } else {}, muF := fun f d => if f = 93 then (d == 26) else if f = 78 then (d == 25 || d == 27) else if f = 14 then (d == 7 || d == 20) else false, fzF := fun f d => if f = 78 then (d == 2) else false, tkF := fun f d => if f = 27 then (d == 4 || d == 24) else if f = 10 then (d == 51) else if f = 11 then (d == 51) else if f = 13 then (d == 93 || d == 95) else if f = 30 then (d == 4 || d == 59) else if f = 72 then (d == 18) else if f = 53 then (d == 34) else if f = 77 then (d == 20) else if f = 43 then (d == 3 || d == 16) else false, raw := fun f => f == 68, dyn := fun f => false, alt := fun f => if f = 39 then some (fun args H => copyBA H args) else none }
def closedL : List Nat := [4]
def cfg : Cfg := { cfg0 with ext := fun f => if closedL.contains f = true then some (fun args H => closedT true H args) else cfg0.ext f }
end Go.Proofs
