/- The law HostKeys: for every input the call returns true, and each argument reads behind it as it read before. -/
import Derived.Test.YtiboedaicjkfnaaGreatDoorHoAlldx0
import Derived.Test.YtiboedaicjkfnaaGreatDoorLvAll11
import Derived.Test.YtiboedaicjkfnaaGreatDoorLvAll18
import Derived.Test.YtiboedaicjkfnaaGreatDoorLvAll19
import Derived.Test.YtiboedaicjkfnaaGreatDoorRows
import Derived.WalkKit
import Derived.ProofKit
import Derived.OpenShut
import Derived.ShutString
import Derived.ChangeOld
import Derived.Below
import Derived.SizedLaws
import Derived.LaidMore
import Derived.Lay
import Derived.Stop.Joined
import Derived.Test.YtiboedaicjkfnaaGreatDoorTie
import Derived.Test.YtiboedaicjkfnaaGreatDoorCards
import Derived.SevenTiedAt
namespace Go.Proofs.YtiboedaicjkfnaaGreatDoor.hostKeys
open Go.ChangeShapes Go.WideShapes Go.ChangeAt Go.RowKit
open Go.ChangeMaps (open_string shut_string)
open Go.Lv
set_option linter.unusedVariables false
theorem own : ownKnob Tryz.prog.godebug = none := by kernel_rfl
theorem laidOut : laidOutB Tryz.prog = true := by kernel_rfl
set_option maxRecDepth 100000 in
theorem lifted (os : Os) (started : os.Started) (H : Type) (enc : TypeId × Value → H) :
  ReturnsInHanded {} Tryz.checked os 6 .any (fun w args => (Rows.hostKeysSpec.pre enc Tryz.prog Tryz.f6 Rows.hostKeysRow.domain false w args ∧ laidMetH Tryz.prog Rows.hostKeysRow.laid w) ∧ sizedMet enc Tryz.prog Tryz.f6 (OpenSpec.ofChange Rows.hostKeysSpec) false w args) (Rows.hostKeysSpec.post enc Tryz.prog Tryz.f6 false true false false) := by
 refine returns_laid (C := Tryz.checked) (X := fun w _ => laidMetH Tryz.prog Rows.hostKeysRow.laid w) (fun _ _ _ hh h => h.of_heap hh) own started (by kernel_rfl) Tryz.func6
  (ChangeSpec.witness_shaped (enc := enc) (C := Tryz.checked) (os := os) (X := fun w _ => laidMetH Tryz.prog Rows.hostKeysRow.laid w) false (World.laidAll Tryz.prog os Rows.hostKeysRow.laid) #[.agg #[.int .i64 0, .string ByteArray.empty, .int .u32 0, .int .u16 0, .int .u16 0, .int .u16 0, .int .u16 0, .int .u16 0, .int .u16 0, .int .u16 0, .int .u16 0], .agg #[.int .i64 0, .string ByteArray.empty, .int .u32 0, .int .u16 0, .int .u16 0, .int .u16 0, .int .u16 0, .int .u16 0, .int .u16 0, .int .u16 0, .int .u16 0]] 8 (World.laidAll_os _ _ _)
   (World.shaped_of_ZipB (by kernel_rfl) (by kernel_rfl)) (by kernel_rfl) (by kernel_rfl) (by kernel_rfl)
   (by rw [MakeChecks.laidMetH_plain _ _ _ (by kernel_rfl)]; exact laidMet_laidAll _ (by kernel_rfl) (by kernel_rfl))) ?_
 intro W base args ds gs before hval0 hW hcnd hsz0 hL hsh _
 have hsz : (DataW.weightsEach Tryz.prog (Tryz.f6.params.toList ++ Rows.hostKeysSpec.plain.varTypes Tryz.prog) (ds ++ gs)).all (· ≤ reachBytes) = true := hsz0
 have hval : ∀ (j : Nat) t v, Tryz.f6.params[j]? = some t → args[j]? = some v → Value.okWide Tryz.prog W .any base t v := hval0
 have hW' := hW
 obtain ⟨p, q, hA0, hV, rfl, hfz, hnd⟩ := hW
 have hA : DataW.TrodAll enc Tryz.prog W 0 (fun _ => true) true Tryz.f6.params.toList args.toList ds p := hA0
 rw [Tryz.params6] at hA hval hsz
 obtain ⟨v0, vs0, d0, ds0, p0, q0, hargs, rfl, rfl, h0, r0⟩ := trodAll_cons hA
 obtain ⟨v1, vs1, d1, ds1, p1, q1, rfl, rfl, rfl, h1, r1⟩ := trodAll_cons r0
 obtain ⟨rfl, rfl, rfl⟩ := trodAll_nil r1
 obtain rfl : args = #[v0, v1] := by cases args; simp_all
 obtain ⟨rfl, rfl⟩ := trodVars_none hV
 obtain ⟨a0, rfl, _⟩ := okWide_struct Tryz.underlying27 (hval 0 27 v0 rfl rfl)
 have k0 := h0
 have lt0 : ∀ x ∈ p0, x.block < W.heap.size := by obtain ⟨m, hm⟩ := k0; exact DataW.trod_lt m _ _ _ hm
 obtain ⟨z0, w0, y0⟩ := Hs.opens_host.topAgg (j := 0) (t := 27) hsz rfl rfl h0
 obtain ⟨a1, rfl, _⟩ := okWide_struct Tryz.underlying27 (hval 1 27 v1 rfl rfl)
 have k1 := h1
 have lt1 : ∀ x ∈ p1, x.block < W.heap.size := by obtain ⟨m, hm⟩ := k1; exact DataW.trod_lt m _ _ _ hm
 obtain ⟨z1, w1, y1⟩ := Hs.opens_host.topAgg (j := 1) (t := 27) hsz rfl rfl h1
 have hLL := hL
 rw [MakeChecks.laidMetH_plain _ _ _ (by kernel_rfl)] at hLL
 clear hA0 hval0 hsz0 hsz
 refine (law_callsG (vs := [.agg a0, .agg a1]) world rfl (Hs.keys_row z0 z1 w0 w1) rfl (rel_cons y0 (rel_cons y1 rel_nil)) (glob_ok W hsh (tab_of 2 (g := 1) (t := 130) (e := 73) (n := 20) hLL rfl (by kernel_rfl) (by kernel_rfl) Tryz.underlying130 Tryz.underlying73 (by kernel_rfl) (by kernel_rfl)) (deb_of fun _ _ => (tab_of 1 (g := 3) (t := 148) (e := 5) (n := 64) hLL rfl (by kernel_rfl) (by kernel_rfl) Tryz.underlying148 Tryz.underlying5 (by kernel_rfl) (by kernel_rfl))))).mono fun e W' ⟨he, bel⟩ => ?_
 subst he
 exact ⟨_, rfl, _, _, _, [], _, [], hW', trodAll_mk1 (shut_bool Tryz.underlying4 _), (trodAll_cons_mk (Below.trod laidOut (by kernel_rfl) (of_decide_eq_true (by kernel_rfl)) k0 bel lt0) (trodAll_cons_mk (Below.trod laidOut (by kernel_rfl) (of_decide_eq_true (by kernel_rfl)) k1 bel lt1) trodAll_mk0)), rfl, bel.frame _, fun h => by cases h⟩
theorem over : Rows.hostKeysRow.holds Tryz.pinned (OpenSpec.ofChange Rows.hostKeysSpec) :=
 OpenClaim.holds_of_wide 6 Tryz.f6 rfl rfl rfl rfl rfl rfl rfl ⟨rfl, rfl, rfl, rfl, rfl⟩ rfl rfl rfl rfl rfl (by kernel_rfl) Tryz.func6 (by kernel_rfl)
  (of_decide_eq_true (by kernel_rfl)) (by unfold Func.isWrapper; first | (rw [if_pos (by decide +kernel)]; kernel_rfl) | (rw [if_neg (by decide +kernel)]; exact ⟨rfl, rfl⟩))
  (fun os started H enc _ => lifted os started H enc)
theorem proved : Rows.HostKeysSaid := over
end Go.Proofs.YtiboedaicjkfnaaGreatDoor.hostKeys
namespace Go.Proofs.YtiboedaicjkfnaaGreatDoor
theorem hostKeys_holds : Rows.HostKeysCardSaid :=
 Claim7.holds_tied_plain_at .later [] [.data, .data, .data, .data, .pinned] true (true, "929d6477654ed666971c14faf8ee05132a216b73d0c1d63c3306e66e4ca79067") false hostKeys.proved (fun _ h => by cases h) (by kernel_rfl) (fun _ h => by cases h) hostKeys_row_tie rfl ⟨rfl, rfl⟩ (by kernel_rfl) rfl
  (fun f fn hf hfn => by
   obtain rfl : f = 6 := Option.some.inj ((show Tryz.prog.funcNamed "springhouse/sprlaw8.HostKeys" = some 6 by kernel_rfl).symm.trans hf) |>.symm
   obtain rfl : fn = Tryz.f6 := (Option.some.inj (Tryz.func6.symm.trans hfn)).symm
   exact ⟨by kernel_rfl, fun j t ht => by
    rw [Tryz.params6] at ht
    have hm : t ∈ [27,27] := by simpa using Array.mem_of_getElem? ht
    have hall : ([27,27].all fun u => !Tryz.prog.wantsStandIn u) = true := by kernel_rfl
    exact (show Tryz.prog.wantsStandIn t = false by simpa using List.all_eq_true.1 hall t hm)⟩)
  (by kernel_rfl)
#print axioms hostKeys_holds
end Go.Proofs.YtiboedaicjkfnaaGreatDoor
