/- A value semantics of the loaded code, its soundness, and walks through functions over it. -/
import Derived.Test.YtpbemfiedmfpiaaGreatDoorTyR11
import Derived.Test.YtpbemfiedmfpiaaGreatDoorLvAll8
import Derived.Test.YtpbemfiedmfpiaaGreatDoorLvAll10
import Derived.Test.YtpbemfiedmfpiaaGreatDoorLvAll11
import Derived.Test.YtpbemfiedmfpiaaGreatDoorLvAll12
import Derived.Test.YtpbemfiedmfpiaaGreatDoorPunyAllax0
import Derived.Shelf.Vars
import Derived.Test.YtpbemfiedmfpiaaGreatDoorHoAllax0
import Derived.Test.YtpbemfiedmfpiaaGreatDoorLvAll14
import Derived.Test.YtpbemfiedmfpiaaGreatDoorLvAll15
import Derived.Test.YtpbemfiedmfpiaaGreatDoorLvAll16
import Derived.Test.YtpbemfiedmfpiaaGreatDoorLvAll17
import Derived.Test.YtpbemfiedmfpiaaGreatDoorLvAll13
set_option linter.unusedVariables false
namespace Go.Proofs
open Go.Lv
def okL : List Nat := [3,4,5,6,7,8,9,10,11,12,13,14,15,16,17,18,19,20,21,22,23,24,25,26,27,28,29,30,31,32,33,34,35,36,37,38,39,40,41,42,43,44,45,46,47,48,49,50,51,52,54,55,57,58,59,60,61,62,63,64,65,66,68,69,70,71,72,73,74,75,76,78,79,80,82,83,84,85,86,87,88,89,90,91,92,93,94,95,96,97,98,99,100,101,102,103,104,108,109,110,111,112,113,114,115,117,118,120,121,122,123,124,125,126,127,128,129,130,131,132,133,134,135,136,137,138,139,140,141,142,143,144,145,146,147,148,149,150,151,152,153,154,155,156,157,158,159,160,163,165,166,167,168,169,170,171,172,174,175,176,177,178,179,180,181,182,183,184,185,186,191,192,193,194,195,196,197,198,199,200,202,203,204,205,207,208,210,211,212,213,214,215,216,217,218,219,220,223,224,226,227,228,229,230,231,232,233,234,238,239,240,241,242,243,244,245,252,254,255,257,258,259,260,261,262,266,270,271,272,273,274,275]
def cfg0 : Cfg := { ext := fun f => if f = 253 then some (fun args H => insertA H args) else if f = 225 then some (fun args H => growT 8 H args) else if f = 67 then some (fun args H => joinT H args) else if f = 190 then some (fun args H => splitT H args) else if f = 164 then some (fun args H => cutT H args) else if f = 116 then some (fun args H => indexByteT H args) else if f = 209 then some (fun args H => replaceT H args) else if f = 56 then some (fun args H => itoaT H args) else if f = 206 then some (fun args H => tzT H args) else if f = 81 then some (fun args H => deleteT 82 tabs H args) else if f = 53 then some (fun args H => cloneT 1 16 H args) else none, ok := fun f => okL.contains f, sig := fun f => if f = 253 then insertSig else if f = 233 then { ps := [some 1], rs := [(0, 1)] } else if f = 208 then { ps := [some 1], rs := [(0, 1)] } else if f = 225 then cloneSig 1 else if f = 193 then { ps := [], rs := [(0, 1)] } else {}, muF := fun f d => if f = 110 then (d == 62 || d == 64 || d == 68 || d == 70) else if f = 231 then (d == 5 || d == 43) else if f = 262 then (d == 6 || d == 46 || d == 140) else if f = 180 then (d == 100 || d == 101) else if f = 51 then (d == 12 || d == 15 || d == 21) else if f = 61 then (d == 6) else if f = 142 then (d == 26 || d == 39) else if f = 103 then (d == 68 || d == 88 || d == 106) else if f = 27 then (d == 5) else if f = 88 then (d == 27) else false, fzF := fun f d => if f = 231 then (d == 2) else if f = 262 then (d == 2) else if f = 61 then (d == 2) else false, tkF := fun f d => if f = 180 then (d == 98) else if f = 83 then (d == 15) else if f = 84 then (d == 25 || d == 52) else if f = 91 then (d == 12) else if f = 92 then (d == 23) else if f = 93 then (d == 41) else if f = 95 then (d == 41) else if f = 97 then (d == 19) else if f = 100 then (d == 22 || d == 53) else if f = 102 then (d == 21 || d == 115 || d == 127) else if f = 103 then (d == 33) else if f = 104 then (d == 76) else false, raw := fun f => f == 253 || f == 225 || f == 53, dyn := fun f => f == 230, alt := fun f => if f = 80 then some (fun args H => lossyMT H args) else if f = 53 then some (fun args H => cloneM 16 H args) else none }
def closedL : List Nat := [13, 31]
def cfg : Cfg := { cfg0 with ext := fun f => if closedL.contains f = true then some (fun args H => closedT true H args) else cfg0.ext f }
end Go.Proofs
