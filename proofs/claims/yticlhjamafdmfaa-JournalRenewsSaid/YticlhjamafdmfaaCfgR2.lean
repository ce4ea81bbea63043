/- A value semantics of the loaded code, its soundness, and walks through functions over it. -/
import Derived.Test.YticlhjamafdmfaaTyR2
import Derived.Test.YticlhjamafdmfaaLvAll6
import Derived.Test.YticlhjamafdmfaaLvAll8
import Derived.Test.YticlhjamafdmfaaLvAll9
namespace Go.Proofs
open Go.Lv
def okL : List Nat := [3,4,5,6,8,9,10,11,12,13,14,15,16,17,18,19,20,21,22,23,24,25,26,27,28,29,30,31,32,33,34,35,39,40,41,42,43,44,45,46,47,48,49,50,51,52,53,54,55,56,59,60,61,62,64,65,66,67,70,71,72,73,74,75,76,77,78,79,80,81,82,83,84,85,86,87,88,89,90,91,92,93,95,96,97,98,99,100,101,102,103,107,110,113,114,116,118,119,120,121,122,123]
def cfg0 : Cfg := { ext := fun f => if f = 57 then some (fun args H => cloneB H args) else if f = 58 then some (fun args H => cloneT 4 32 H args) else if f = 69 then some (fun args H => cloneT 5 64 H args) else if f = 63 then some (fun args H => copiedT H args) else if f = 37 then some (fun args H => usedT H args) else if f = 94 then some (fun args H => equalT H args) else none, ok := fun f => okL.contains f, sig := fun f => if f = 57 then cloneSig 1 else if f = 51 then { ps := [], rs := [(0, 1)] } else if f = 92 then { ps := [], rs := [(1, 1)] } else if f = 12 then { ps := [], rs := [(0, 1)] } else {}, muF := fun f d => if f = 90 then (d == 26) else if f = 50 then (d == 25 || d == 27) else if f = 4 then (d == 7 || d == 86) else false, fzF := fun f d => if f = 50 then (d == 2) else false, tkF := fun f d => if f = 15 then (d == 4 || d == 24) else if f = 22 then (d == 51) else if f = 66 then (d == 18) else if f = 81 then (d == 34) else if f = 100 then (d == 20) else if f = 60 then (d == 3 || d == 16) else false, raw := fun f => f == 58 || f == 69 }
def closedL : List Nat := [11]
def cfg : Cfg := { cfg0 with ext := fun f => if closedL.contains f = true then some (fun args H => closedT true H args) else cfg0.ext f }
end Go.Proofs
