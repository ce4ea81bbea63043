/- The law of addresses as texts. -/
import Derived.Test.YtfkjkmjkfnephaaGreatDoorUrAllax0
set_option linter.unusedVariables false
set_option linter.unusedSimpArgs false
namespace Go.Proofs
open Go.Lv
namespace Hs
open Pu Ut Utf In
variable {H : Heap}
theorem ReadsS.pre {H H' : Heap} {a : AV} {l : List (List UInt8)} (h : ReadsS H a l) (hp : H <+: H') : ReadsS H' a l := by
 obtain ⟨T, rfl⟩ := hp
 exact h.add T
theorem storeW {P : Program} {t : TypeId} [h1 : SizeIs P t 23] {ys zs : List AV} (hx : zs.length = 23) (hxo : zs.all AV.one = true) (hy : ys.length = 23) (hyo : ys.all AV.one = true) : storeC P t (H ++ [zs]) H.length 0 (.agg ys) zs = some (H ++ [ys]) := by
 unfold storeC
 simp only [h1.h, Option.bind_some]
 rw [if_pos ⟨hy, hyo, by omega, by omega, plainRow_one hxo⟩]
 have e : List.drop (0 + 23) zs = [] := List.drop_eq_nil_of_le (by omega)
 rw [e]
 simp [AV.cells]
end Hs
end Go.Proofs
