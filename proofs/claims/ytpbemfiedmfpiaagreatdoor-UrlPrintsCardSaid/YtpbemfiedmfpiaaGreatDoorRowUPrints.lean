/- The law UrlPrints: for every input the call returns true, and each argument reads behind it as it read before. -/
import Derived.Test.YtpbemfiedmfpiaaGreatDoorUrAllax0
import Derived.Test.YtpbemfiedmfpiaaGreatDoorLvAll11
import Derived.Test.YtpbemfiedmfpiaaGreatDoorLvAll19
import Derived.Test.YtpbemfiedmfpiaaGreatDoorLvAll20
import Derived.Test.YtpbemfiedmfpiaaGreatDoorRows
import Derived.WalkKit
import Derived.ProofKit
import Derived.OpenShut
import Derived.ShutString
import Derived.ChangeOld
import Derived.Below
import Derived.SizedLaws
import Derived.LaidMore
import Derived.Lay
import Derived.Stop.Joined
import Derived.Test.YtpbemfiedmfpiaaGreatDoorTie
import Derived.Test.YtpbemfiedmfpiaaGreatDoorCards
import Derived.SevenTiedAt
namespace Go.Proofs.YtpbemfiedmfpiaaGreatDoor.urlPrints
open Go.ChangeShapes Go.WideShapes Go.ChangeAt Go.RowKit
open Go.ChangeMaps (open_string shut_string)
open Go.Lv
set_option linter.unusedVariables false
theorem own : ownKnob Tryz.prog.godebug = none := by kernel_rfl
theorem laidOut : laidOutB Tryz.prog = true := by kernel_rfl
set_option maxRecDepth 100000 in
theorem lifted (os : Os) (started : os.Started) (H : Type) (enc : TypeId × Value → H) :
  ReturnsInHanded {} Tryz.checked os 10 .any (fun w args => (Rows.urlPrintsSpec.pre enc Tryz.prog Tryz.f10 Rows.urlPrintsRow.domain false w args ∧ laidMetH Tryz.prog Rows.urlPrintsRow.laid w) ∧ sizedMet enc Tryz.prog Tryz.f10 (OpenSpec.ofChange Rows.urlPrintsSpec) false w args) (Rows.urlPrintsSpec.post enc Tryz.prog Tryz.f10 false true false false) := by
 refine returns_laid (C := Tryz.checked) (X := fun w _ => laidMetH Tryz.prog Rows.urlPrintsRow.laid w) (fun _ _ _ hh h => h.of_heap hh) own started (by kernel_rfl) Tryz.func10
  (ChangeSpec.witness_shaped (enc := enc) (C := Tryz.checked) (os := os) (X := fun w _ => laidMetH Tryz.prog Rows.urlPrintsRow.laid w) false (World.laidAll Tryz.prog os Rows.urlPrintsRow.laid) #[.agg #[.string ByteArray.empty, .string ByteArray.empty, .string ByteArray.empty, .bool false, .int .i64 0, .string ByteArray.empty, .int .u32 0, .int .u16 0, .int .u16 0, .int .u16 0, .int .u16 0, .int .u16 0, .int .u16 0, .int .u16 0, .int .u16 0, .int .i64 0, .bool false, .string ByteArray.empty, .slice none 0 0, .bool false, .string ByteArray.empty, .bool false, .string ByteArray.empty], .agg #[.string ByteArray.empty, .string ByteArray.empty, .string ByteArray.empty, .bool false, .int .i64 0, .string ByteArray.empty, .int .u32 0, .int .u16 0, .int .u16 0, .int .u16 0, .int .u16 0, .int .u16 0, .int .u16 0, .int .u16 0, .int .u16 0, .int .i64 0, .bool false, .string ByteArray.empty, .slice none 0 0, .bool false, .string ByteArray.empty, .bool false, .string ByteArray.empty]] 8 (World.laidAll_os _ _ _)
   (World.shaped_of_ZipB (by kernel_rfl) (by kernel_rfl)) (by kernel_rfl) (by kernel_rfl) (by kernel_rfl)
   (by rw [MakeChecks.laidMetH_plain _ _ _ (by kernel_rfl)]; exact laidMet_laidAll _ (by kernel_rfl) (by kernel_rfl))) ?_
 intro W base args ds gs before hval0 hW hcnd hsz0 hL hsh _
 have hsz : (DataW.weightsEach Tryz.prog (Tryz.f10.params.toList ++ Rows.urlPrintsSpec.plain.varTypes Tryz.prog) (ds ++ gs)).all (· ≤ reachBytes) = true := hsz0
 have hval : ∀ (j : Nat) t v, Tryz.f10.params[j]? = some t → args[j]? = some v → Value.okWide Tryz.prog W .any base t v := hval0
 have hW' := hW
 obtain ⟨p, q, hA0, hV, rfl, hfz, hnd⟩ := hW
 have hA : DataW.TrodAll enc Tryz.prog W 0 (fun _ => true) true Tryz.f10.params.toList args.toList ds p := hA0
 rw [Tryz.params10] at hA hval hsz
 obtain ⟨v0, vs0, d0, ds0, p0, q0, hargs, rfl, rfl, h0, r0⟩ := trodAll_cons hA
 obtain ⟨v1, vs1, d1, ds1, p1, q1, rfl, rfl, rfl, h1, r1⟩ := trodAll_cons r0
 obtain ⟨rfl, rfl, rfl⟩ := trodAll_nil r1
 obtain rfl : args = #[v0, v1] := by cases args; simp_all
 obtain ⟨rfl, rfl⟩ := trodVars_none hV
 obtain ⟨a0, rfl, _⟩ := okWide_struct Tryz.underlying30 (hval 0 30 v0 rfl rfl)
 have k0 := h0
 have lt0 : ∀ x ∈ p0, x.block < W.heap.size := by obtain ⟨m, hm⟩ := k0; exact DataW.trod_lt m _ _ _ hm
 obtain ⟨z0, w0, y0⟩ := Hs.opens_url.topAgg (j := 0) (t := 30) hsz rfl rfl h0
 obtain ⟨a1, rfl, _⟩ := okWide_struct Tryz.underlying30 (hval 1 30 v1 rfl rfl)
 have k1 := h1
 have lt1 : ∀ x ∈ p1, x.block < W.heap.size := by obtain ⟨m, hm⟩ := k1; exact DataW.trod_lt m _ _ _ hm
 obtain ⟨z1, w1, y1⟩ := Hs.opens_url.topAgg (j := 1) (t := 30) hsz rfl rfl h1
 have hLL := hL
 rw [MakeChecks.laidMetH_plain _ _ _ (by kernel_rfl)] at hLL
 clear hA0 hval0 hsz0 hsz
 refine (law_callsG (vs := [.agg a0, .agg a1]) world rfl (Hs.prints_u z0 z1 w0 w1) rfl (rel_cons y0 (rel_cons y1 rel_nil)) (glob_ok W hsh (tab_of 2 (g := 1) (t := 157) (e := 101) (n := 20) hLL rfl (by kernel_rfl) (by kernel_rfl) Tryz.underlying157 Tryz.underlying101 (by kernel_rfl) (by kernel_rfl)) (deb_of fun _ _ => (tab_of 1 (g := 3) (t := 181) (e := 5) (n := 64) hLL rfl (by kernel_rfl) (by kernel_rfl) Tryz.underlying181 Tryz.underlying5 (by kernel_rfl) (by kernel_rfl))))).mono fun e W' ⟨he, bel⟩ => ?_
 subst he
 exact ⟨_, rfl, _, _, _, [], _, [], hW', trodAll_mk1 (shut_bool Tryz.underlying4 _), (trodAll_cons_mk (Below.trod laidOut (by kernel_rfl) (of_decide_eq_true (by kernel_rfl)) k0 bel lt0) (trodAll_cons_mk (Below.trod laidOut (by kernel_rfl) (of_decide_eq_true (by kernel_rfl)) k1 bel lt1) trodAll_mk0)), rfl, bel.frame _, fun h => by cases h⟩
theorem over : Rows.urlPrintsRow.holds Tryz.pinned (OpenSpec.ofChange Rows.urlPrintsSpec) :=
 OpenClaim.holds_of_wide 10 Tryz.f10 rfl rfl rfl rfl rfl rfl rfl ⟨rfl, rfl, rfl, rfl, rfl⟩ rfl rfl rfl rfl rfl (by kernel_rfl) Tryz.func10 (by kernel_rfl)
  (of_decide_eq_true (by kernel_rfl)) (by unfold Func.isWrapper; first | (rw [if_pos (by decide +kernel)]; kernel_rfl) | (rw [if_neg (by decide +kernel)]; exact ⟨rfl, rfl⟩))
  (fun os started H enc _ => lifted os started H enc)
theorem proved : Rows.UrlPrintsSaid := over
end Go.Proofs.YtpbemfiedmfpiaaGreatDoor.urlPrints
namespace Go.Proofs.YtpbemfiedmfpiaaGreatDoor
theorem urlPrints_holds : Rows.UrlPrintsCardSaid :=
 Claim7.holds_tied_plain_at .later [] [.data, .data, .data, .data, .pinned] true (true, "9db3eb2658bc24ba2fd39c99066c9a3e0bf5f1b52e7211737f0ccbd861bf3170") false urlPrints.proved (fun _ h => by cases h) (by kernel_rfl) (fun _ h => by cases h) urlPrints_row_tie rfl ⟨rfl, rfl⟩ (by kernel_rfl) rfl
  (fun f fn hf hfn => by
   obtain rfl : f = 10 := Option.some.inj ((show Tryz.prog.funcNamed "springhouse/sprlaw9.UrlPrints" = some 10 by kernel_rfl).symm.trans hf) |>.symm
   obtain rfl : fn = Tryz.f10 := (Option.some.inj (Tryz.func10.symm.trans hfn)).symm
   exact ⟨by kernel_rfl, fun j t ht => by
    rw [Tryz.params10] at ht
    have hm : t ∈ [30,30] := by simpa using Array.mem_of_getElem? ht
    have hall : ([30,30].all fun u => !Tryz.prog.wantsStandIn u) = true := by kernel_rfl
    exact (show Tryz.prog.wantsStandIn t = false by simpa using List.all_eq_true.1 hall t hm)⟩)
  (by kernel_rfl)
#print axioms urlPrints_holds
end Go.Proofs.YtpbemfiedmfpiaaGreatDoor
