/- Events among the arguments. -/
import Derived.Test.YtbfcbjmoijiffaaGreatDkAllax0
import Derived.Test.YtbfcbjmoijiffaaGreatLvAll14
import Derived.KernelRfl
set_option linter.unusedVariables false
set_option linter.unusedSimpArgs false
namespace Go.Proofs
open Go.Lv
namespace Jn
open Dk (Ev)
variable {W : World} {H : Type} {enc : TypeId × Value → H}
def evC (e : Ev) : List AV := [.i e.at_, .i e.kind, .i e.keep, .i e.torn]
theorem opens_int : Opens Tryz.prog W enc 3 (fun n : Int => [AV.v (.int .i64 n)]) (fun n => (Lit.int .i64 n).wf = true) := Opens.int Tryz.underlying3 (by kernel_rfl)
theorem opens_ev : Opens Tryz.prog W enc 57 evC (fun _ => True) :=
  Opens.iso (fun p : Int × Int × Int × Int × Unit => (⟨p.1, p.2.1, p.2.2.1, p.2.2.2.1⟩ : Ev))
    (Opens.struct Tryz.underlying57 (tot := 4) (by kernel_rfl)
      (OpensF.cons (n0 := 1) opens_int rfl (by kernel_rfl) (OpensF.cons (n0 := 1) opens_int rfl (by kernel_rfl) (OpensF.cons (n0 := 1) opens_int rfl (by kernel_rfl) (OpensF.cons (n0 := 1) opens_int rfl (by kernel_rfl) OpensF.nil rfl) rfl) rfl) rfl))
    (fun _ => rfl) (fun _ _ => trivial)
end Jn
end Go.Proofs
