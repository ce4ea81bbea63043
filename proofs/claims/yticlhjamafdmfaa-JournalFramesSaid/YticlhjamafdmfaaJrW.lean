/- What the configuration needs: each function is looked at ahead; copies by the shelf's contracts; loops over maps; the chapter's examples, run. -/
import Derived.Test.YticlhjamafdmfaaJrR
import Derived.Test.YticlhjamafdmfaaCfgR2
set_option linter.unusedVariables false
namespace Go.Proofs
open Go.Lv Go.Shelf
def cbRen : Ren := ⟨fun k => if k = 4 then 57 else k, fun k => if k = 4 then 4 else if k = 22 then 22 else if k = 5 then 5 else k, fun x => x⟩
theorem cbLays : SlLaysK.n4 Try.prog cbRen where
  mixed := by kernel_rfl
  f4 := by show Try.prog.funcs[57]? = _; rw [Try.func57]; rfl
  t4 := Try.underlying4
  a4 := Try.isAgg4
  z4 := Try.sizeOf4
  v4 := Try.zeroValue4
  t22 := Try.underlying22
  a22 := Try.isAgg22
  z22 := Try.sizeOf22
  v22 := Try.zeroValue22
  t5 := Try.underlying5
  i5 := by kernel_rfl
def ceRen : Ren := ⟨fun k => if k = 41 then 58 else k, fun k => if k = 4 then 4 else if k = 22 then 37 else if k = 23 then 46 else k, fun x => x⟩
theorem ceLays : SlLaysE0.n41 Try.prog ceRen where
  mixed := by kernel_rfl
  f41 := ⟨_, rfl, by show Try.prog.funcs[58]? = _; rw [Try.func58]; rfl⟩
  t4 := Try.underlying4
  a4 := Try.isAgg4
  z4 := Try.sizeOf4
  v4 := Try.zeroValue4
  t22 := Try.underlying37
  a22 := Try.isAgg37
  z22 := Try.sizeOf37
  v22 := Try.zeroValue37
def ccRen : Ren := ⟨fun k => if k = 41 then 69 else k, fun k => if k = 4 then 4 else if k = 22 then 87 else if k = 23 then 98 else k, fun x => x⟩
theorem ccLays : SlLaysE0.n41 Try.prog ccRen where
  mixed := by kernel_rfl
  f41 := ⟨_, rfl, by show Try.prog.funcs[69]? = _; rw [Try.func69]; rfl⟩
  t4 := Try.underlying4
  a4 := Try.isAgg4
  z4 := Try.sizeOf4
  v4 := Try.zeroValue4
  t22 := Try.underlying87
  a22 := Try.isAgg87
  z22 := Try.sizeOf87
  v22 := Try.zeroValue87
theorem chk_all0 : (okL.all fun f => chkFn Try.prog cfg0 f) = true := by kernel_rfl
theorem chk_all : (okL.all fun f => chkFn Try.prog cfg f) = true := by kernel_rfl
theorem ext0 : ∀ g s, cfg0.ext g = some s → ∀ args H r H', s args H = some (r, H') → CallOK Try.prog (cfg0.sig g) g args H r H' := by
  intro g s hs args H r H' h
  by_cases h1 : g = 57
  · subst h1
    injection hs with hs; subst hs
    exact cloneB_ok cbLays h
  by_cases h2 : g = 58
  · subst h2
    injection hs with hs; subst hs
    exact cloneT_ok (n := 4) (by_ := 32) (z := .agg #[.int .i64 0, .int .i64 0, .int .i64 0, .int .i64 0]) ceLays (by kernel_rfl) rfl h
  by_cases h3 : g = 69
  · subst h3
    injection hs with hs; subst hs
    exact cloneT_ok (n := 5) (by_ := 64) (z := .agg #[.string ByteArray.empty, .string ByteArray.empty, .slice none 0 0, .bool false, .bool false]) ccLays (by kernel_rfl) rfl h
  by_cases h4 : g = 63
  · subst h4
    injection hs with hs; subst hs
    exact copiedT_ok copied_run h
  by_cases h5 : g = 37
  · subst h5
    injection hs with hs; subst hs
    exact usedT_ok used_run h
  · simp [cfg0, h1, h2, h3, h4, h5] at hs
theorem extc0 : ∀ g, (cfg0.ext g).isSome = true → Callable Try.prog g := by
  intro g h
  by_cases h1 : g = 57
  · subst h1; exact ⟨_, Try.func57, rfl, by decide⟩
  by_cases h2 : g = 58
  · subst h2; exact ⟨_, Try.func58, rfl, by decide⟩
  by_cases h3 : g = 69
  · subst h3; exact ⟨_, Try.func69, rfl, by decide⟩
  by_cases h4 : g = 63
  · subst h4; exact ⟨_, Try.func63, rfl, by decide⟩
  by_cases h5 : g = 37
  · subst h5; exact ⟨_, Try.func37, rfl, by decide⟩
  · simp [cfg0, h1, h2, h3, h4, h5] at h
theorem world0 : World0 Try.prog cfg0 where
  ext := ext0
  extc := extc0
  chk := by
    intro g _ h
    exact List.all_eq_true.1 chk_all0 g (by simpa [cfg0] using h)
  dyn := by intro g h; cases h
  mixed := by kernel_rfl
theorem run23 : ((lcallX Try.prog cfg0 400 11 [] []).map fun r => eqA 2 r.1 (.b true)) = some true := by kernel_rfl
theorem closed_cases {g : Nat} (h : closedL.contains g = true) : g = 11 := by
  simpa [closedL] using h
theorem world : World0 Try.prog cfg where
  ext := by
    intro g s hs args H r H' h
    by_cases hc : closedL.contains g = true
    · have e : cfg.ext g = some fun args H => closedT true H args := by
        show (if closedL.contains g = true then _ else _) = _
        rw [if_pos hc]
      rw [e] at hs
      injection hs with hs; subst hs
      obtain rfl := closed_cases hc
      exact closedT_ok world0 rfl run23 h
    · have e : cfg.ext g = cfg0.ext g := by
        show (if closedL.contains g = true then _ else _) = _
        rw [if_neg hc]
      rw [e] at hs
      exact ext0 g s hs args H r H' h
  extc := by
    intro g h
    by_cases hc : closedL.contains g = true
    · obtain rfl := closed_cases hc
      exact ⟨_, Try.func11, rfl, by decide⟩
    · have e : cfg.ext g = cfg0.ext g := by
        show (if closedL.contains g = true then _ else _) = _
        rw [if_neg hc]
      rw [e] at h
      exact extc0 g h
  chk := by
    intro g _ h
    exact List.all_eq_true.1 chk_all g (by simpa [cfg, cfg0] using h)
  dyn := by intro g h; cases h
  mixed := by kernel_rfl
/-- The chapters' examples hold. -/
theorem first23_w {H : Heap} : WF Try.prog cfg 11 [] H (fun r H' => r = .b true ∧ H' = H) := WF.ext (g := fun args H => closedT true H args) rfl (r := .b true) (H' := H) rfl ⟨rfl, rfl⟩
end Go.Proofs
