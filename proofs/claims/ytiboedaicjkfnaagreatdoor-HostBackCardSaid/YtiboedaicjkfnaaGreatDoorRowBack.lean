/- The law HostBack: for every input the call returns true, and each argument reads behind it as it read before. -/
import Derived.Test.YtiboedaicjkfnaaGreatDoorHoAlldx0
import Derived.Test.YtiboedaicjkfnaaGreatDoorLvAll11
import Derived.Test.YtiboedaicjkfnaaGreatDoorLvAll18
import Derived.Test.YtiboedaicjkfnaaGreatDoorLvAll19
import Derived.Test.YtiboedaicjkfnaaGreatDoorRows
import Derived.WalkKit
import Derived.ProofKit
import Derived.OpenShut
import Derived.ShutString
import Derived.ChangeOld
import Derived.Below
import Derived.SizedLaws
import Derived.LaidMore
import Derived.Lay
import Derived.Stop.Joined
import Derived.Test.YtiboedaicjkfnaaGreatDoorTie
import Derived.Test.YtiboedaicjkfnaaGreatDoorCards
import Derived.SevenTiedAt
namespace Go.Proofs.YtiboedaicjkfnaaGreatDoor.hostBack
open Go.ChangeShapes Go.WideShapes Go.ChangeAt Go.RowKit
open Go.ChangeMaps (open_string shut_string)
open Go.Lv
set_option linter.unusedVariables false
theorem own : ownKnob Tryz.prog.godebug = none := by kernel_rfl
set_option maxRecDepth 100000 in
theorem lifted (os : Os) (started : os.Started) (H : Type) (enc : TypeId × Value → H) :
    ReturnsInHanded {} Tryz.checked os 5 .any (fun w args => (Rows.hostBackSpec.pre enc Tryz.prog Tryz.f5 Rows.hostBackRow.domain false w args ∧ laidMetH Tryz.prog Rows.hostBackRow.laid w) ∧ sizedMet enc Tryz.prog Tryz.f5 (OpenSpec.ofChange Rows.hostBackSpec) false w args) (Rows.hostBackSpec.post enc Tryz.prog Tryz.f5 false true false false) := by
  refine returns_laid (C := Tryz.checked) (X := fun w _ => laidMetH Tryz.prog Rows.hostBackRow.laid w) (fun _ _ _ hh h => h.of_heap hh) own started (by kernel_rfl) Tryz.func5
    (ChangeSpec.witness_shaped (enc := enc) (C := Tryz.checked) (os := os) (X := fun w _ => laidMetH Tryz.prog Rows.hostBackRow.laid w) false (World.laidAll Tryz.prog os Rows.hostBackRow.laid) #[.string ByteArray.empty, .bool false] 8 (World.laidAll_os _ _ _)
      (World.shaped_of_ZipB (by kernel_rfl) (by kernel_rfl)) (by kernel_rfl) (by kernel_rfl) (by kernel_rfl)
      (by rw [MakeChecks.laidMetH_plain _ _ _ (by kernel_rfl)]; exact laidMet_laidAll _ (by kernel_rfl) (by kernel_rfl))) ?_
  intro W base args ds gs before hval0 hW hcnd hsz0 hL hsh _
  have hsz : (DataW.weightsEach Tryz.prog (Tryz.f5.params.toList ++ Rows.hostBackSpec.plain.varTypes Tryz.prog) (ds ++ gs)).all (· ≤ reachBytes) = true := hsz0
  have hval : ∀ (j : Nat) t v, Tryz.f5.params[j]? = some t → args[j]? = some v → Value.okWide Tryz.prog W .any base t v := hval0
  have hW' := hW
  obtain ⟨p, q, hA0, hV, rfl, hfz, hnd⟩ := hW
  have hA : DataW.TrodAll enc Tryz.prog W 0 (fun _ => true) true Tryz.f5.params.toList args.toList ds p := hA0
  rw [Tryz.params5] at hA hval hsz
  obtain ⟨v0, vs0, d0, ds0, p0, q0, hargs, rfl, rfl, h0, r0⟩ := trodAll_cons hA
  obtain ⟨v1, vs1, d1, ds1, p1, q1, rfl, rfl, rfl, h1, r1⟩ := trodAll_cons r0
  obtain ⟨rfl, rfl, rfl⟩ := trodAll_nil r1
  obtain rfl : args = #[v0, v1] := by cases args; simp_all
  obtain ⟨rfl, rfl⟩ := trodVars_none hV
  obtain ⟨a0, rfl, rfl, rfl, y0⟩ := open_string Tryz.underlying9 (hval 0 9 v0 rfl rfl) h0
  have w0 : a0.size ≤ 140737488351232 := by
    have z := sized_string hsz (j := 0) (t := 9) rfl rfl
    rw [Array.length_toList] at z
    exact z
  obtain ⟨a1, rfl, rfl, rfl⟩ := open_bool Tryz.underlying4 (hval 1 4 v1 rfl rfl) h1
  have hLL := hL
  rw [MakeChecks.laidMetH_plain _ _ _ (by kernel_rfl)] at hLL
  clear hA0 hval0 hsz0 hsz
  refine (law_callsG (vs := [.string a0, .bool a1]) world rfl (Hs.back_w a0.data.toList a1 (by have h : a0.data.toList.length = a0.size := Array.length_toList; omega)) rfl (rel_cons rel_str (rel_cons (.sc _ rfl) rel_nil)) (glob_ok W hsh (tab_of 2 (g := 1) (t := 130) (e := 73) (n := 20) hLL rfl (by kernel_rfl) (by kernel_rfl) Tryz.underlying130 Tryz.underlying73 (by kernel_rfl) (by kernel_rfl)) (deb_of fun _ _ => (tab_of 1 (g := 3) (t := 148) (e := 5) (n := 64) hLL rfl (by kernel_rfl) (by kernel_rfl) Tryz.underlying148 Tryz.underlying5 (by kernel_rfl) (by kernel_rfl))))).mono fun e W' ⟨he, bel⟩ => ?_
  subst he
  exact ⟨_, rfl, _, _, _, [], _, [], hW', trodAll_mk1 (shut_bool Tryz.underlying4 _), (trodAll_cons_mk (shut_string Tryz.underlying9 y0) (trodAll_cons_mk (shut_bool Tryz.underlying4 _) trodAll_mk0)), rfl, bel.frame _, fun h => by cases h⟩
theorem over : Rows.hostBackRow.holds Tryz.pinned (OpenSpec.ofChange Rows.hostBackSpec) :=
  OpenClaim.holds_of_wide 5 Tryz.f5 rfl rfl rfl rfl rfl rfl rfl ⟨rfl, rfl, rfl, rfl, rfl⟩ rfl rfl rfl rfl rfl (by kernel_rfl) Tryz.func5 (by kernel_rfl)
    (of_decide_eq_true (by kernel_rfl)) (by unfold Func.isWrapper; first | (rw [if_pos (by decide +kernel)]; kernel_rfl) | (rw [if_neg (by decide +kernel)]; exact ⟨rfl, rfl⟩))
    (fun os started H enc _ => lifted os started H enc)
theorem proved : Rows.HostBackSaid := over
end Go.Proofs.YtiboedaicjkfnaaGreatDoor.hostBack
namespace Go.Proofs.YtiboedaicjkfnaaGreatDoor
/-- The row, under a short name, for the claim. -/
theorem hostBack_holds : Rows.HostBackCardSaid :=
  Claim7.holds_tied_plain_at .later [] [.data, .data, .data, .data, .pinned] true (true, "929d6477654ed666971c14faf8ee05132a216b73d0c1d63c3306e66e4ca79067") false hostBack.proved (fun _ h => by cases h) (by kernel_rfl) (fun _ h => by cases h) hostBack_row_tie rfl ⟨rfl, rfl⟩ (by kernel_rfl) rfl
    (fun f fn hf hfn => by
      obtain rfl : f = 5 := Option.some.inj ((show Tryz.prog.funcNamed "springhouse/sprlaw8.HostBack" = some 5 by kernel_rfl).symm.trans hf) |>.symm
      obtain rfl : fn = Tryz.f5 := (Option.some.inj (Tryz.func5.symm.trans hfn)).symm
      exact ⟨by kernel_rfl, fun j t ht => by
        rw [Tryz.params5] at ht
        have hm : t ∈ [9,4] := by simpa using Array.mem_of_getElem? ht
        have hall : ([9,4].all fun u => !Tryz.prog.wantsStandIn u) = true := by kernel_rfl
        exact (show Tryz.prog.wantsStandIn t = false by simpa using List.all_eq_true.1 hall t hm)⟩)
    (by kernel_rfl)
#print axioms hostBack_holds
end Go.Proofs.YtiboedaicjkfnaaGreatDoor
