/- The law of addresses as texts. -/
import Derived.Test.YtpbemfiedmfpiaaGreatDoorUrAllax0
set_option linter.unusedVariables false
set_option linter.unusedSimpArgs false
namespace Go.Proofs
open Go.Lv
namespace Hs
open Pu Ut Utf In
variable {H : Heap}
theorem ReadsS.pre {H H' : Heap} {a : AV} {l : List (List UInt8)} (h : ReadsS H a l) (hp : H <+: H') : ReadsS H' a l := by
 obtain ⟨T, rfl⟩ := hp
 exact h.add T
end Hs
end Go.Proofs
