/-
  No cell of these rows narrows 'for every input' (looked for: loops, veiled, ifaces, maps, wideKeys, modest, calm, conditions, laid).
  DERIVED. THE GIVEN ROWS OF THIS SEAT. 2 by the template 'for every input the law returns true; each argument reads behind the call as it read before'; 0 by the template 'total and deterministic' (their statements: YtjihneefmhjllaaTotals.lean).
  GIVEN WITH THE SEED: the statements are not yours to turn. If you find one false, say at which input.
  Laid BY PROGRAM, IN A SANDBOX (cutbox-rows.mjs): the forced cells as the released guide's own fill.sh prints them over the translation c302bc1496a4e1b7… (all of the seat's roots in one cut). By AI agents, Wed Nov 11 2026. No macro, syntax, notation, axiom, sorry.
-/
import Derived.Test.YtjihneefmhjllaaChecked
import GoSem.Claim
import GoSem.ClaimJoined
import GoSem.ClaimMapViews
import Derived.JoinedTies
import Derived.KernelRfl
namespace Go.Proofs.Ytjihneefmhjllaa
/- THE CELL 'sum', in the pinned program and in every row, IS THE sha256 OF THE DUMP (.gsa) THAT YtjihneefmhjllaaProg.lean LOADS. Nothing in Lean hashes anything: it is a label: what it is worth is what the hold of that sum in a sandbox is worth. -/
noncomputable def Try.pinned : Pinned := { name := "ytjihneefmhjllaa", sum := "c302bc1496a4e1b7c84b68ef7d2e4ad2d83ac6001608ec5dd0ffe5c3613dd014", checked := Try.checked }
namespace Rows
def none {H : Type} : Left H := { results := [], args := [] }

/-- 'sprlaw5.IdnaLabels': WHATEVER THE INPUT: true; the input reads as it did. -/
def idnaLabelsSpec : ChangeSpec := { name := "idnaLabels", fn := fun _ => fun
  | [d] => { results := [.lit (.bool true)], args := [d] }
  | _ => none }
def idnaLabelsRow : OpenClaim := { program := "ytjihneefmhjllaa", sum := "c302bc1496a4e1b7c84b68ef7d2e4ad2d83ac6001608ec5dd0ffe5c3613dd014", func := "springhouse/sprlaw5.IdnaLabels", spec := "idnaLabels", inPlace := ["slices.overlaps[int]", "internal/abi.NoEscape", "internal/bytealg.MakeNoZero"], unfollowed := true, recurses := true, apart := false }
def IdnaLabelsSaid : Prop := idnaLabelsRow.holds Try.pinned (OpenSpec.ofChange idnaLabelsSpec)

/-- ITS FALSE NEIGHBOUR: 'it returns false'. Refute it at one input. -/
def idnaLabelsWrong : ChangeSpec := { name := "idnaLabels", fn := fun _ => fun
  | [d] => { results := [.lit (.bool false)], args := [d] }
  | _ => none }
def IdnaLabelsWrongFalsely : Prop := idnaLabelsRow.holds Try.pinned (OpenSpec.ofChange idnaLabelsWrong)

/-- 'sprlaw5.IdnaMarks': WHATEVER THE INPUT: true; the input reads as it did. -/
def idnaMarksSpec : ChangeSpec := { name := "idnaMarks", fn := fun _ => fun
  | [d] => { results := [.lit (.bool true)], args := [d] }
  | _ => none }
def idnaMarksRow : OpenClaim := { program := "ytjihneefmhjllaa", sum := "c302bc1496a4e1b7c84b68ef7d2e4ad2d83ac6001608ec5dd0ffe5c3613dd014", func := "springhouse/sprlaw5.IdnaMarks", spec := "idnaMarks", inPlace := ["slices.overlaps[int]", "internal/abi.NoEscape", "internal/bytealg.MakeNoZero"], unfollowed := true, recurses := true, apart := false }
def IdnaMarksSaid : Prop := idnaMarksRow.holds Try.pinned (OpenSpec.ofChange idnaMarksSpec)

/-- ITS FALSE NEIGHBOUR: 'it returns false'. Refute it at one input. -/
def idnaMarksWrong : ChangeSpec := { name := "idnaMarks", fn := fun _ => fun
  | [d] => { results := [.lit (.bool false)], args := [d] }
  | _ => none }
def IdnaMarksWrongFalsely : Prop := idnaMarksRow.holds Try.pinned (OpenSpec.ofChange idnaMarksWrong)

/- THE SECOND FORM. 'bulk': how many values and letters a reading holds, each counted each time it is reached (what is shared counts as often as it is met; a slice's spare places count too). A statement '..UptoSaid' is the law's where the arguments, and the package variables that the reading takes, are together of bulk at most 1048576: NARROWER than '..Said'. Prove '..Said' where nothing that the law and all that it calls make is longer than what came in: it says more and counts as full. Else prove '..UptoSaid'. A law counts once. -/
mutual
def uptoBulk {H : Type} : DataW H → Nat
  | .lit (.string bytes) => bytes.length + 1
  | .lit _ => 1
  | .nil => 1
  | .ptr d => uptoBulk d + 1
  | .slice elems spare => uptoBulkAll elems + uptoBulkAll spare + 1
  | .agg parts => uptoBulkAll parts + 1
  | .iface _ d => uptoBulk d + 1
  | .map entries => uptoBulkEntries entries + 1
  | .held _ => 1
def uptoBulkAll {H : Type} : List (DataW H) → Nat
  | [] => 0
  | d :: r => uptoBulk d + uptoBulkAll r
def uptoBulkEntries {H : Type} : List (Lit × DataW H) → Nat
  | [] => 0
  | x :: r => uptoBulkEntry x + uptoBulkEntries r
def uptoBulkEntry {H : Type} : Lit × DataW H → Nat
  | (.string bytes, d) => bytes.length + uptoBulk d + 1
  | (_, d) => uptoBulk d + 1
 end
def uptoSmall : (H : Type) → List (DataW H) → Bool := fun _ ds => decide (uptoBulkAll ds ≤ 1048576)
def OpenSpec.upto (s : _root_.Go.ChangeSpec) : _root_.Go.OpenSpec := { _root_.Go.OpenSpec.ofChange s with cond := some uptoSmall }

/-- 'sprlaw5.IdnaLabels', WHERE WHAT IT READS IS OF BULK AT MOST 1048576: true; the input reads as it did. -/
def idnaLabelsUptoRow : OpenClaim := { program := "ytjihneefmhjllaa", sum := "c302bc1496a4e1b7c84b68ef7d2e4ad2d83ac6001608ec5dd0ffe5c3613dd014", func := "springhouse/sprlaw5.IdnaLabels", spec := "idnaLabels", inPlace := ["slices.overlaps[int]", "internal/abi.NoEscape", "internal/bytealg.MakeNoZero"], unfollowed := true, recurses := true, apart := false, narrowed := true }
def IdnaLabelsUptoSaid : Prop := idnaLabelsUptoRow.holds Try.pinned (OpenSpec.upto idnaLabelsSpec)

/-- 'sprlaw5.IdnaMarks', WHERE WHAT IT READS IS OF BULK AT MOST 1048576: true; the input reads as it did. -/
def idnaMarksUptoRow : OpenClaim := { program := "ytjihneefmhjllaa", sum := "c302bc1496a4e1b7c84b68ef7d2e4ad2d83ac6001608ec5dd0ffe5c3613dd014", func := "springhouse/sprlaw5.IdnaMarks", spec := "idnaMarks", inPlace := ["slices.overlaps[int]", "internal/abi.NoEscape", "internal/bytealg.MakeNoZero"], unfollowed := true, recurses := true, apart := false, narrowed := true }
def IdnaMarksUptoSaid : Prop := idnaMarksUptoRow.holds Try.pinned (OpenSpec.upto idnaMarksSpec)

end Rows
end Go.Proofs.Ytjihneefmhjllaa
