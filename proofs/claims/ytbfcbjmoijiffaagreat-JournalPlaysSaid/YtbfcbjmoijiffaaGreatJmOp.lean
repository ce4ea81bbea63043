/- The journal's operations among the arguments. -/
import Derived.Test.YtbfcbjmoijiffaaGreatJmD
import Derived.Test.YtbfcbjmoijiffaaGreatDlOp
import Derived.KernelRfl
set_option linter.unusedVariables false
set_option linter.unusedSimpArgs false
namespace Go.Proofs
open Go.Lv
namespace Jn
open Dk (Ev Bs)
open Dl (DOp)
variable {W : World} {H : Type} {enc : TypeId × Value → H}
def opC11 (o : JOp) : List AV := [.i o.kind, AV.bytes o.b, .sl (o.l.map AV.bytes), .i o.d.kind, .i o.d.keep, .i o.d.torn, .i o.d.room, AV.str o.d.name, AV.str o.d.to, AV.bytes o.d.b, .sl (o.d.plan.map evA)]
theorem opens_lists : Opens Tryz.prog W enc 39 (fun l : List Bs => [AV.sl (l.map fun a => elA false [AV.sl (a.map fun a => elA false [byteA a])])]) (fun l => l.length * 24 ≤ 140737488351232 ∧ ∀ a ∈ l, a.length * 1 ≤ 140737488351232 ∧ ∀ x ∈ a, True) :=
  Opens.slice (n := 1) (by_ := 24) false Tryz.underlying39 (by kernel_rfl) Nat.one_pos (by kernel_rfl) (fun _ => rfl) opens_bytes (by kernel_rfl)
theorem opens_jop : Opens Tryz.prog W enc 44 opC11 BigJ :=
  Opens.iso (fun p : Int × Bs × List Bs × DOp × Unit => (⟨p.1, p.2.1, p.2.2.1, p.2.2.2.1⟩ : JOp))
    (Opens.struct Tryz.underlying44 (tot := 11) (by kernel_rfl)
      (OpensF.cons (n0 := 1) opens_int rfl (by kernel_rfl) (OpensF.cons (n0 := 1) opens_bytes rfl (by kernel_rfl) (OpensF.cons (n0 := 1) opens_lists rfl (by kernel_rfl) (OpensF.cons (n0 := 8) opens_op rfl (by kernel_rfl) OpensF.nil rfl) rfl) rfl) rfl))
    (fun _ => rfl) (fun p hp => by
      obtain ⟨_, h2, h3, h4, _⟩ := hp
      exact ⟨by have := h2.1; simp only; omega, by have := h3.1; simp only; omega, fun q hq => by have := (h3.2 q hq).1; omega, h4⟩)
end Jn
end Go.Proofs
