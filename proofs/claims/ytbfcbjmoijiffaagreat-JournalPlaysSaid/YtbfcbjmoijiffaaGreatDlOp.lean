/- Operations among the arguments. -/
import Derived.Test.YtbfcbjmoijiffaaGreatDkOp
import Derived.Test.YtbfcbjmoijiffaaGreatDlAllax0
import Derived.KernelRfl
set_option linter.unusedVariables false
set_option linter.unusedSimpArgs false
namespace Go.Proofs
open Go.Lv
namespace Jn
open Dk (Ev Bs)
open Dl (DOp)
variable {W : World} {H : Type} {enc : TypeId × Value → H}
def opC8 (o : DOp) : List AV := [.i o.kind, .i o.keep, .i o.torn, .i o.room, AV.str o.name, AV.str o.to, AV.bytes o.b, .sl (o.plan.map evA)]
theorem opens_str : Opens Tryz.prog W enc 9 (fun s : Bs => [AV.str s]) (fun s => s.length ≤ 140737488351232) := Opens.str Tryz.underlying9 (by kernel_rfl)
theorem opens_bytes : Opens Tryz.prog W enc 38 (fun l : Bs => [AV.sl (l.map fun a => elA false [byteA a])]) (fun l => l.length * 1 ≤ 140737488351232 ∧ ∀ a ∈ l, True) :=
  Opens.slice (n := 1) (by_ := 1) false Tryz.underlying38 (by kernel_rfl) Nat.one_pos (by kernel_rfl) (fun _ => rfl) (Opens.byte Tryz.underlying5 (by kernel_rfl)) (by kernel_rfl)
theorem opens_evs : Opens Tryz.prog W enc 40 (fun l : List Ev => [AV.sl (l.map fun a => elA true (evC a))]) (fun l => l.length * 32 ≤ 140737488351232 ∧ ∀ a ∈ l, True) :=
  Opens.slice (n := 4) (by_ := 32) true Tryz.underlying40 (by kernel_rfl) (by decide) (by kernel_rfl) (fun h => by cases h) opens_ev (by kernel_rfl)
theorem opens_op : Opens Tryz.prog W enc 42 opC8 Big :=
  Opens.iso (fun p : Int × Int × Int × Int × Bs × Bs × Bs × List Ev × Unit => (⟨p.1, p.2.1, p.2.2.1, p.2.2.2.1, p.2.2.2.2.1, p.2.2.2.2.2.1, p.2.2.2.2.2.2.1, p.2.2.2.2.2.2.2.1⟩ : DOp))
    (Opens.struct Tryz.underlying42 (tot := 8) (by kernel_rfl)
      (OpensF.cons (n0 := 1) opens_int rfl (by kernel_rfl) (OpensF.cons (n0 := 1) opens_int rfl (by kernel_rfl) (OpensF.cons (n0 := 1) opens_int rfl (by kernel_rfl) (OpensF.cons (n0 := 1) opens_int rfl (by kernel_rfl)
        (OpensF.cons (n0 := 1) opens_str rfl (by kernel_rfl) (OpensF.cons (n0 := 1) opens_str rfl (by kernel_rfl) (OpensF.cons (n0 := 1) opens_bytes rfl (by kernel_rfl) (OpensF.cons (n0 := 1) opens_evs rfl (by kernel_rfl) OpensF.nil rfl) rfl) rfl) rfl) rfl) rfl) rfl) rfl))
    (fun _ => rfl) (fun p hp => by
      obtain ⟨_, _, _, _, h5, h6, h7, h8, _⟩ := hp
      exact ⟨by simp only; omega, by simp only; omega, by have := h8.1; simp only; omega, by have := h7.1; simp only; omega⟩)
end Jn
theorem glob_ok (W : World) (h : W.ShapedOpen Tryz.prog) : GlobOK Tryz.prog W := by
  have h1 : Tryz.prog.globalNamed "internal/bytealg.MaxLen" = none := by kernel_rfl
  have h2 : Tryz.prog.globalNamed "internal/strconv.uint64pow10" = none := by kernel_rfl
  have h3 : Tryz.prog.globalNamed "math/bits.deBruijn64tab" = none := by kernel_rfl
  refine ⟨?_, ?_, ?_⟩
  · intro g hg
    rw [h1] at hg; cases hg
  · intro hp
    rw [h2] at hp; cases hp
  · intro g hg
    rw [h3] at hg; cases hg
end Go.Proofs
