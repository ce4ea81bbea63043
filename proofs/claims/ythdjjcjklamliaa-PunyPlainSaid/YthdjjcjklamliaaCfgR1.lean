import Derived.Test.YthdjjcjklamliaaTyR1
import Derived.Test.YthdjjcjklamliaaLvRow
import Derived.Test.YthdjjcjklamliaaLvIns
import Derived.Test.YthdjjcjklamliaaPunyFacts
namespace Go.Proofs
open Go.Lv
def okL : List Nat := [3,4,5,6,7,8,9,10,11,12,13,14,15,16,17,18,19,20,21,22,23,25,26,27,28,29]
def cfg : Cfg := { ext := fun f => if f = 24 then some (fun args H => insertA H args) else none, ok := fun f => okL.contains f, sig := fun f => if f = 24 then insertSig else if f = 16 then { ps := [some 1], rs := [(0, 1)] } else {}, muF := fun f d => if f = 11 then (d == 5 || d == 43) else if f = 12 then (d == 6 || d == 46 || d == 140) else false, fzF := fun f d => if f = 11 then (d == 2) else if f = 12 then (d == 2) else false }
end Go.Proofs
