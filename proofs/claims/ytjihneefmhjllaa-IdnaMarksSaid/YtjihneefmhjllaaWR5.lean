/- What the configuration needs: each function is looked at ahead; contracts of the library; the chapters' examples, run. -/
import Derived.Test.YtjihneefmhjllaaCfgR5
set_option linter.unusedVariables false
set_option linter.unusedSimpArgs false
namespace Go.Proofs
open Go.Lv Go.Shelf
def insLays_ren : Shelf.Ren := ⟨fun k => if k = 21 then 42 else if k = 27 then 48 else if k = 28 then 49 else if k = 35 then 52 else if k = 39 then 53 else k, fun k => if k = 3 then 3 else if k = 4 then 4 else if k = 22 then 24 else if k = 0 then 0 else k, fun x => x⟩
theorem insLays : Lays2.n21 Try.prog insLays_ren where
  mixed := by kernel_rfl
  f21 := by show Try.prog.funcs[42]? = _; rw [Try.func42]; rfl
  f27 := by show Try.prog.funcs[48]? = _; rw [Try.func48]; rfl
  f28 := by show Try.prog.funcs[49]? = _; rw [Try.func49]; rfl
  f35 := by show Try.prog.funcs[52]? = _; rw [Try.func52]; rfl
  f39 := by show Try.prog.funcs[53]? = _; rw [Try.func53]; rfl
  t0 := Try.underlying0
  a0 := Try.isAgg0
  z0 := Try.sizeOf0
  v0 := Try.zeroValue0
  t3 := Try.underlying3
  a3 := Try.isAgg3
  z3 := Try.sizeOf3
  v3 := Try.zeroValue3
  t4 := Try.underlying4
  a4 := Try.isAgg4
  z4 := Try.sizeOf4
  v4 := Try.zeroValue4
  t22 := Try.underlying24
  a22 := Try.isAgg24
  z22 := Try.sizeOf24
  v22 := Try.zeroValue24
  i3 := by kernel_rfl
def growintint_ren : Shelf.Ren := ⟨fun k => if k = 4 then 43 else k, fun k => if k = 0 then 0 else if k = 3 then 3 else if k = 4 then 4 else if k = 9 then 9 else if k = 20 then 20 else if k = 22 then 24 else if k = 25 then 3 else k, fun x => x⟩
theorem growintint : Lays8.n4 Try.prog growintint_ren where
  mixed := by kernel_rfl
  f4 := ⟨_, rfl, by show Try.prog.funcs[43]? = _; rw [Try.func43]; rfl⟩
  t0 := Try.underlying0
  a0 := Try.isAgg0
  z0 := Try.sizeOf0
  v0 := Try.zeroValue0
  t3 := Try.underlying3
  a3 := Try.isAgg3
  z3 := Try.sizeOf3
  v3 := Try.zeroValue3
  t4 := Try.underlying4
  a4 := Try.isAgg4
  z4 := Try.sizeOf4
  v4 := Try.zeroValue4
  t9 := Try.underlying9
  a9 := Try.isAgg9
  z9 := Try.sizeOf9
  v9 := Try.zeroValue9
  t20 := Try.underlying20
  a20 := Try.isAgg20
  z20 := Try.sizeOf20
  v20 := Try.zeroValue20
  t22 := Try.underlying24
  a22 := Try.isAgg24
  z22 := Try.sizeOf24
  v22 := Try.zeroValue24
def joinLays_ren : Shelf.Ren := ⟨fun k => if k = 156 then 20 else if k = 165 then 34 else if k = 166 then 35 else if k = 169 then 36 else if k = 240 then 44 else if k = 241 then 45 else if k = 276 then 50 else if k = 277 then 51 else k, fun k => if k = 31 then 38 else if k = 9 then 9 else if k = 3 then 3 else if k = 4 then 4 else if k = 0 then 0 else if k = 20 then 20 else if k = 72 then 53 else if k = 76 then 57 else if k = 70 then 51 else if k = 37 then 41 else if k = 75 then 56 else if k = 127 then 69 else if k = 164 then 73 else if k = 5 then 5 else if k = 80 then 59 else k, fun x => x⟩
theorem joinLays : Lays.n156 Try.prog joinLays_ren where
  mixed := by kernel_rfl
  f156 := by show Try.prog.funcs[20]? = _; rw [Try.func20]; rfl
  f165 := by show Try.prog.funcs[34]? = _; rw [Try.func34]; rfl
  f166 := by show Try.prog.funcs[35]? = _; rw [Try.func35]; rfl
  f169 := by show Try.prog.funcs[36]? = _; rw [Try.func36]; rfl
  f240 := by show Try.prog.funcs[44]? = _; rw [Try.func44]; rfl
  f241 := by show Try.prog.funcs[45]? = _; rw [Try.func45]; rfl
  f276 := by show Try.prog.funcs[50]? = _; rw [Try.func50]; rfl
  f277 := by show Try.prog.funcs[51]? = _; rw [Try.func51]; rfl
  t0 := Try.underlying0
  a0 := Try.isAgg0
  z0 := Try.sizeOf0
  v0 := Try.zeroValue0
  t3 := Try.underlying3
  a3 := Try.isAgg3
  z3 := Try.sizeOf3
  v3 := Try.zeroValue3
  t4 := Try.underlying4
  a4 := Try.isAgg4
  z4 := Try.sizeOf4
  v4 := Try.zeroValue4
  t9 := Try.underlying9
  a9 := Try.isAgg9
  z9 := Try.sizeOf9
  v9 := Try.zeroValue9
  t20 := Try.underlying20
  a20 := Try.isAgg20
  z20 := Try.sizeOf20
  v20 := Try.zeroValue20
  t31 := Try.underlying38
  a31 := Try.isAgg38
  z31 := Try.sizeOf38
  v31 := Try.zeroValue38
  t37 := Try.underlying41
  a37 := Try.isAgg41
  z37 := Try.sizeOf41
  v37 := Try.zeroValue41
  t70 := Try.underlying51
  a70 := Try.isAgg51
  z70 := Try.sizeOf51
  v70 := Try.zeroValue51
  t72 := Try.underlying53
  a72 := Try.isAgg53
  z72 := Try.sizeOf53
  v72 := Try.zeroValue53
  t75 := Try.underlying56
  a75 := Try.isAgg56
  z75 := Try.sizeOf56
  v75 := Try.zeroValue56
  t76 := Try.underlying57
  a76 := Try.isAgg57
  z76 := Try.sizeOf57
  v76 := Try.zeroValue57
  t127 := Try.underlying69
  a127 := Try.isAgg69
  z127 := Try.sizeOf69
  v127 := Try.zeroValue69
  t164 := Try.underlying73
  a164 := Try.isAgg73
  z164 := Try.sizeOf73
  v164 := Try.zeroValue73
theorem joinExtra : Builder.Extra Try.prog joinLays_ren where
  sizeBuilder := by kernel_rfl
  liesBuilder := by kernel_rfl
  t5 := Try.underlying5
  a5 := Try.isAgg5
  z5 := Try.sizeOf5
  v5 := Try.zeroValue5
  infoByte := by kernel_rfl
  cellsByte := by kernel_rfl
  sizeByte := by kernel_rfl
  neB5 := by decide
theorem chk_all0 : (okL.all fun f => chkFn Try.prog cfg0 f) = true := by kernel_rfl
theorem chk_all : (okL.all fun f => chkFn Try.prog cfg f) = true := by kernel_rfl
theorem ext0 : ∀ g s, cfg0.ext g = some s → ∀ args H r H', s args H = some (r, H') → CallOK Try.prog (cfg0.sig g) g args H r H' := by
  intro g s hs args H r H' h
  by_cases h0 : g = 42
  · subst h0
    injection hs with hs; subst hs
    exact insert_ok insLays h
  by_cases h1 : g = 43
  · subst h1
    injection hs with hs; subst hs
    exact growT_ok (n := 1) (by_ := 8) (z := .int .i64 0) growintint (by decide) (by kernel_rfl) rfl h
  by_cases h2 : g = 20
  · subst h2
    injection hs with hs; subst hs
    exact joinT_ok joinLays joinExtra h
  · simp [cfg0, h0, h1, h2] at hs
theorem extc0 : ∀ g, (cfg0.ext g).isSome = true → Callable Try.prog g := by
  intro g h
  by_cases h0 : g = 42
  · subst h0; exact ⟨_, Try.func42, rfl, by decide⟩
  by_cases h1 : g = 43
  · subst h1; exact ⟨_, Try.func43, rfl, by decide⟩
  by_cases h2 : g = 20
  · subst h2; exact ⟨_, Try.func20, rfl, by decide⟩
  · simp [cfg0, h0, h1, h2] at h
theorem world0 : World0 Try.prog cfg0 where
  ext := ext0
  extc := extc0
  chk := by
    intro g _ h
    exact List.all_eq_true.1 chk_all0 g (by simpa [cfg0] using h)
  dyn := by
    intro g h
    simp only [cfg, cfg0, beq_iff_eq] at h
    subst h
    rfl
  mixed := by kernel_rfl
theorem run_0 : ((lcallX Try.prog cfg0 400 5 [] []).map fun r => eqA 2 r.1 (.b true)) = some true := by kernel_rfl
theorem closed_cases {g : Nat} (h : closedL.contains g = true) : g = 5 := by
  simpa [closedL] using h
theorem world : World0 Try.prog cfg where
  ext := by
    intro g s hs args H r H' h
    by_cases hc : closedL.contains g = true
    · have e : cfg.ext g = some fun args H => closedT true H args := by
        show (if closedL.contains g = true then _ else _) = _
        rw [if_pos hc]
      rw [e] at hs
      injection hs with hs; subst hs
      rcases closed_cases hc with rfl
      · exact closedT_ok world0 rfl run_0 h
    · have e : cfg.ext g = cfg0.ext g := by
        show (if closedL.contains g = true then _ else _) = _
        rw [if_neg hc]
      rw [e] at hs
      exact ext0 g s hs args H r H' h
  extc := by
    intro g h
    by_cases hc : closedL.contains g = true
    · rcases closed_cases hc with rfl
      · exact ⟨_, Try.func5, rfl, by decide⟩
    · have e : cfg.ext g = cfg0.ext g := by
        show (if closedL.contains g = true then _ else _) = _
        rw [if_neg hc]
      rw [e] at h
      exact extc0 g h
  chk := by
    intro g _ h
    exact List.all_eq_true.1 chk_all g (by simpa [cfg, cfg0] using h)
  dyn := by
    intro g h
    simp only [cfg, cfg0, beq_iff_eq] at h
    subst h
    rfl
  mixed := by kernel_rfl
/-- The examples hold. -/
theorem sprlaw5_first_w {H : Heap} : WF Try.prog cfg 5 [] H (fun r H' => r = .b true ∧ H' = H) := WF.ext (g := fun args H => closedT true H args) rfl (r := .b true) (H' := H) rfl ⟨rfl, rfl⟩
end Go.Proofs
