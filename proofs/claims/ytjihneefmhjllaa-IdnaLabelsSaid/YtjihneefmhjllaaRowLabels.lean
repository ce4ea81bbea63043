/- The law IdnaLabels: for every input the call returns true, and each argument reads behind it as it read before. -/
import Derived.Test.YtjihneefmhjllaaIdJ
import Derived.Test.YtjihneefmhjllaaLvAll9
import Derived.Test.YtjihneefmhjllaaLvAll13
import Derived.Test.YtjihneefmhjllaaRows
import Derived.WalkKit
import Derived.ProofKit
import Derived.OpenShut
import Derived.ShutString
import Derived.ChangeOld
import Derived.Below
import Derived.SizedLaws
namespace Go.Proofs.Ytjihneefmhjllaa.idnaLabels
open Go.ChangeShapes Go.WideShapes Go.ChangeAt Go.RowKit
open Go.ChangeMaps (open_string shut_string)
open Go.Lv
set_option linter.unusedVariables false
theorem own : ownKnob Try.prog.godebug = none := by kernel_rfl
theorem laidOut : laidOutB Try.prog = true := by kernel_rfl
set_option maxRecDepth 100000 in
theorem lifted (os : Os) (started : os.Started) (H : Type) (enc : TypeId × Value → H) :
    ReturnsInHanded {} Try.checked os 3 .any (Rows.idnaLabelsSpec.pre6 enc Try.prog Try.f3 Rows.idnaLabelsRow.domain false) (Rows.idnaLabelsSpec.post enc Try.prog Try.f3 false true false false) := by
  refine returnsInHanded_of_change_sized (C := Try.checked) own started (by kernel_rfl) Try.func3
    (ChangeSpec.witness6 (enc := enc) (C := Try.checked) false ⟨#[], #[.slice none 0 0], []⟩ 8 (by kernel_rfl) (by kernel_rfl) (by kernel_rfl) (by kernel_rfl)) ?_
  intro W base args ds gs before hval0 hW hcnd hsz0 _
  have hsz : (DataW.weightsEach Try.prog (Try.f3.params.toList ++ Rows.idnaLabelsSpec.plain.varTypes Try.prog) (ds ++ gs)).all (· ≤ reachBytes) = true := hsz0
  have hval : ∀ (j : Nat) t v, Try.f3.params[j]? = some t → args[j]? = some v → Value.okWide Try.prog W .any base t v := hval0
  have hW' := hW
  obtain ⟨p, q, hA0, hV, rfl, hfz, hnd⟩ := hW
  have hA : DataW.TrodAll enc Try.prog W 0 (fun _ => true) true Try.f3.params.toList args.toList ds p := hA0
  rw [Try.params3] at hA hval hsz
  obtain ⟨v0, vs0, d0, ds0, p0, q0, hargs, rfl, rfl, h0, r0⟩ := trodAll_cons hA
  obtain ⟨rfl, rfl, rfl⟩ := trodAll_nil r0
  obtain rfl : args = #[v0] := by cases args; simp_all
  obtain ⟨rfl, rfl⟩ := trodVars_none hV
  obtain ⟨a0, len0, cap0, rfl⟩ := okWide_slice Try.underlying22 (hval 0 22 v0 rfl rfl)
  have k0 := h0
  have lt0 : ∀ x ∈ p0, x.block < W.heap.size := by obtain ⟨m, hm⟩ := k0; exact DataW.trod_lt m _ _ _ hm
  obtain ⟨z0, w0, y0⟩ := (Opens.slice (n := 1) (by_ := 24) false Try.underlying22 (by kernel_rfl) Nat.one_pos (by kernel_rfl) (fun _ => rfl) (Opens.slice (n := 1) (by_ := 8) false Try.underlying24 (by kernel_rfl) Nat.one_pos (by kernel_rfl) (fun _ => rfl) (Opens.int Try.underlying3 (by kernel_rfl)) (by kernel_rfl)) (by kernel_rfl)).top (j := 0) (t := 22) hsz rfl rfl rfl h0
  clear hA0 hval0 hsz0 hsz
  refine (law_calls (vs := [.slice a0 len0 cap0]) world rfl (In.labels_w z0 (by have := w0.1; omega) (fun p hp => by have := (w0.2 p hp).1; omega)) rfl (rel_cons (y0 _ rfl) rel_nil)).mono fun e W' ⟨he, bel⟩ => ?_
  subst he
  exact ⟨_, rfl, _, _, _, [], _, [], hW', trodAll_mk1 (shut_bool Try.underlying4 _), (trodAll_cons_mk (Below.trod laidOut (by kernel_rfl) (of_decide_eq_true (by kernel_rfl)) k0 bel lt0) trodAll_mk0), rfl, bel.frame _, fun h => by cases h⟩
theorem over : Rows.idnaLabelsRow.holds Try.pinned (OpenSpec.ofChange Rows.idnaLabelsSpec) :=
  OpenClaim.holds_of_wide 3 Try.f3 rfl rfl rfl rfl rfl rfl rfl ⟨rfl, rfl, rfl, rfl, rfl⟩ rfl rfl rfl rfl rfl (by kernel_rfl) Try.func3 (by kernel_rfl)
    (of_decide_eq_true (by kernel_rfl)) (by unfold Func.isWrapper; first | (rw [if_pos (by decide +kernel)]; kernel_rfl) | (rw [if_neg (by decide +kernel)]; exact ⟨rfl, rfl⟩))
    (fun os started H enc _ => lifted os started H enc)
theorem proved : Rows.IdnaLabelsSaid := over
end Go.Proofs.Ytjihneefmhjllaa.idnaLabels
namespace Go.Proofs.Ytjihneefmhjllaa
/-- The row, under a short name, for the claim. -/
theorem idnaLabels_holds : Rows.IdnaLabelsSaid := idnaLabels.proved
#print axioms idnaLabels_holds
end Go.Proofs.Ytjihneefmhjllaa
