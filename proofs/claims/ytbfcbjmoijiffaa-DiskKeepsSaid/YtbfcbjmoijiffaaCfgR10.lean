/- A value semantics of the loaded code, its soundness, and walks through functions over it. -/
import Derived.Test.YtbfcbjmoijiffaaTyR10
import Derived.Test.YtbfcbjmoijiffaaLvAll12
import Derived.Test.YtbfcbjmoijiffaaLvAll11
import Derived.Test.YtbfcbjmoijiffaaLvAll10
set_option linter.unusedVariables false
namespace Go.Proofs
open Go.Lv
def okL : List Nat := [3,4,5,6,7,8,9,10,11,12,14,17,18,19,20,21,22,23,24,25,26,27,28,29,30,31,32,35,36,37,38,42,43,44,45,46,47,48,49,50,51,52,53,54,55,56,57,58,59,60,61,62,63,64,65,66,67,70,71,72,73,74,75,76,88,89]
def cfg0 : Cfg := { ext := fun f => if f = 34 then some (fun args H => cloneB H args) else if f = 33 then some (fun args H => cloneT 4 32 H args) else if f = 41 then some (fun args H => cloneT 5 64 H args) else if f = 40 then some (fun args H => copiedT H args) else if f = 16 then some (fun args H => usedT H args) else if f = 15 then some (fun args H => namesT H args) else if f = 13 then some (fun args H => equalT H args) else none, ok := fun f => okL.contains f, sig := fun f => if f = 34 then cloneSig 1 else if f = 43 then { ps := [], rs := [(0, 1)] } else if f = 15 then cloneSig 1 else if f = 11 then { ps := [], rs := [(1, 1)] } else {}, muF := fun f d => if f = 24 then (d == 7 || d == 20) else if f = 7 then (d == 16 || d == 17 || d == 22 || d == 23) else if f = 6 then (d == 78 || d == 79) else false, fzF := fun f d => false, tkF := fun f d => if f = 37 then (d == 18) else if f = 56 then (d == 34) else if f = 73 then (d == 20) else false, raw := fun f => f == 33 || f == 41, dyn := fun f => false, alt := fun f => if f = 43 then some (fun args H => copyBA H args) else none }
def closedL : List Nat := [7]
def cfg : Cfg := { cfg0 with ext := fun f => if closedL.contains f = true then some (fun args H => closedT true H args) else cfg0.ext f }
end Go.Proofs
