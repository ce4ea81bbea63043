/- What the configuration needs: each function is looked at ahead; contracts of the library; the chapters' examples, run. -/
import Derived.Test.YtjihneefmhjllaaDoorCfgR5D
set_option linter.unusedVariables false
set_option linter.unusedSimpArgs false
namespace Go.Proofs
open Go.Lv Go.Shelf
def insLays_ren : Shelf.Ren := ⟨fun k => if k = 21 then 60 else if k = 27 then 79 else if k = 28 then 80 else if k = 35 then 87 else if k = 39 then 93 else k, fun k => if k = 3 then 3 else if k = 4 then 4 else if k = 22 then 22 else if k = 0 then 0 else k, fun x => x⟩
theorem insLays : Lays2.n21 Tryd.prog insLays_ren where
  mixed := by kernel_rfl
  f21 := by show Tryd.prog.funcs[60]? = _; rw [Tryd.func60]; rfl
  f27 := by show Tryd.prog.funcs[79]? = _; rw [Tryd.func79]; rfl
  f28 := by show Tryd.prog.funcs[80]? = _; rw [Tryd.func80]; rfl
  f35 := by show Tryd.prog.funcs[87]? = _; rw [Tryd.func87]; rfl
  f39 := by show Tryd.prog.funcs[93]? = _; rw [Tryd.func93]; rfl
  t0 := Tryd.underlying0
  a0 := Tryd.isAgg0
  z0 := Tryd.sizeOf0
  v0 := Tryd.zeroValue0
  t3 := Tryd.underlying3
  a3 := Tryd.isAgg3
  z3 := Tryd.sizeOf3
  v3 := Tryd.zeroValue3
  t4 := Tryd.underlying4
  a4 := Tryd.isAgg4
  z4 := Tryd.sizeOf4
  v4 := Tryd.zeroValue4
  t22 := Tryd.underlying22
  a22 := Tryd.isAgg22
  z22 := Tryd.sizeOf22
  v22 := Tryd.zeroValue22
  i3 := by kernel_rfl
def growintint_ren : Shelf.Ren := ⟨fun k => if k = 4 then 63 else k, fun k => if k = 0 then 0 else if k = 3 then 3 else if k = 4 then 4 else if k = 9 then 9 else if k = 20 then 20 else if k = 22 then 22 else if k = 25 then 3 else k, fun x => x⟩
theorem growintint : Lays8.n4 Tryd.prog growintint_ren where
  mixed := by kernel_rfl
  f4 := ⟨_, rfl, by show Tryd.prog.funcs[63]? = _; rw [Tryd.func63]; rfl⟩
  t0 := Tryd.underlying0
  a0 := Tryd.isAgg0
  z0 := Tryd.sizeOf0
  v0 := Tryd.zeroValue0
  t3 := Tryd.underlying3
  a3 := Tryd.isAgg3
  z3 := Tryd.sizeOf3
  v3 := Tryd.zeroValue3
  t4 := Tryd.underlying4
  a4 := Tryd.isAgg4
  z4 := Tryd.sizeOf4
  v4 := Tryd.zeroValue4
  t9 := Tryd.underlying9
  a9 := Tryd.isAgg9
  z9 := Tryd.sizeOf9
  v9 := Tryd.zeroValue9
  t20 := Tryd.underlying20
  a20 := Tryd.isAgg20
  z20 := Tryd.sizeOf20
  v20 := Tryd.zeroValue20
  t22 := Tryd.underlying22
  a22 := Tryd.isAgg22
  z22 := Tryd.sizeOf22
  v22 := Tryd.zeroValue22
def joinLays_ren : Shelf.Ren := ⟨fun k => if k = 156 then 17 else if k = 165 then 38 else if k = 166 then 39 else if k = 169 then 40 else if k = 240 then 67 else if k = 241 then 68 else if k = 276 then 81 else if k = 277 then 82 else k, fun k => if k = 31 then 34 else if k = 9 then 9 else if k = 3 then 3 else if k = 4 then 4 else if k = 0 then 0 else if k = 20 then 20 else if k = 72 then 53 else if k = 76 then 57 else if k = 70 then 50 else if k = 37 then 51 else if k = 75 then 56 else if k = 127 then 76 else if k = 164 then 83 else if k = 5 then 5 else if k = 80 then 59 else k, fun x => x⟩
theorem joinLays : Lays.n156 Tryd.prog joinLays_ren where
  mixed := by kernel_rfl
  f156 := by show Tryd.prog.funcs[17]? = _; rw [Tryd.func17]; rfl
  f165 := by show Tryd.prog.funcs[38]? = _; rw [Tryd.func38]; rfl
  f166 := by show Tryd.prog.funcs[39]? = _; rw [Tryd.func39]; rfl
  f169 := by show Tryd.prog.funcs[40]? = _; rw [Tryd.func40]; rfl
  f240 := by show Tryd.prog.funcs[67]? = _; rw [Tryd.func67]; rfl
  f241 := by show Tryd.prog.funcs[68]? = _; rw [Tryd.func68]; rfl
  f276 := by show Tryd.prog.funcs[81]? = _; rw [Tryd.func81]; rfl
  f277 := by show Tryd.prog.funcs[82]? = _; rw [Tryd.func82]; rfl
  t0 := Tryd.underlying0
  a0 := Tryd.isAgg0
  z0 := Tryd.sizeOf0
  v0 := Tryd.zeroValue0
  t3 := Tryd.underlying3
  a3 := Tryd.isAgg3
  z3 := Tryd.sizeOf3
  v3 := Tryd.zeroValue3
  t4 := Tryd.underlying4
  a4 := Tryd.isAgg4
  z4 := Tryd.sizeOf4
  v4 := Tryd.zeroValue4
  t9 := Tryd.underlying9
  a9 := Tryd.isAgg9
  z9 := Tryd.sizeOf9
  v9 := Tryd.zeroValue9
  t20 := Tryd.underlying20
  a20 := Tryd.isAgg20
  z20 := Tryd.sizeOf20
  v20 := Tryd.zeroValue20
  t31 := Tryd.underlying34
  a31 := Tryd.isAgg34
  z31 := Tryd.sizeOf34
  v31 := Tryd.zeroValue34
  t37 := Tryd.underlying51
  a37 := Tryd.isAgg51
  z37 := Tryd.sizeOf51
  v37 := Tryd.zeroValue51
  t70 := Tryd.underlying50
  a70 := Tryd.isAgg50
  z70 := Tryd.sizeOf50
  v70 := Tryd.zeroValue50
  t72 := Tryd.underlying53
  a72 := Tryd.isAgg53
  z72 := Tryd.sizeOf53
  v72 := Tryd.zeroValue53
  t75 := Tryd.underlying56
  a75 := Tryd.isAgg56
  z75 := Tryd.sizeOf56
  v75 := Tryd.zeroValue56
  t76 := Tryd.underlying57
  a76 := Tryd.isAgg57
  z76 := Tryd.sizeOf57
  v76 := Tryd.zeroValue57
  t127 := Tryd.underlying76
  a127 := Tryd.isAgg76
  z127 := Tryd.sizeOf76
  v127 := Tryd.zeroValue76
  t164 := Tryd.underlying83
  a164 := Tryd.isAgg83
  z164 := Tryd.sizeOf83
  v164 := Tryd.zeroValue83
theorem joinExtra : Builder.Extra Tryd.prog joinLays_ren where
  sizeBuilder := by kernel_rfl
  liesBuilder := by kernel_rfl
  t5 := Tryd.underlying5
  a5 := Tryd.isAgg5
  z5 := Tryd.sizeOf5
  v5 := Tryd.zeroValue5
  infoByte := by kernel_rfl
  cellsByte := by kernel_rfl
  sizeByte := by kernel_rfl
  neB5 := by decide
def lays146_ren : Shelf.Ren := ⟨fun | 146 => 30 | 221 => 56 | 268 => 73 | 138 => 74 | 143 => 75 | 195 => 83 | 197 => 84 | 218 => 85 | 219 => 86 | 260 => 88 | 217 => 89 | 225 => 90 | 224 => 91 | 267 => 92 | 266 => 94 | 314 => 95 | n => n, fun | 9 => 9 | 31 => 34 | 3 => 3 | 4 => 4 | 0 => 0 | 105 => 86 | 21 => 21 | 5 => 5 | 46 => 78 | 119 => 89 | 139 => 92 | 138 => 91 | 146 => 94 | 51 => 93 | n => n, fun | 1 => 0 | 3 => 1 | 4 => 2 | n => n⟩
theorem lays146 : Go.Proofs.Lays.n146 Tryd.prog lays146_ren := {
  mixed := by kernel_rfl
  f138 := Tryd.func74.trans (congrArg some (by kernel_rfl))
  f143 := Tryd.func75.trans (congrArg some (by kernel_rfl))
  f146 := Tryd.func30.trans (congrArg some (by kernel_rfl))
  f195 := Tryd.func83.trans (congrArg some (by kernel_rfl))
  f197 := Tryd.func84.trans (congrArg some (by kernel_rfl))
  f217 := Tryd.func89.trans (congrArg some (by kernel_rfl))
  f218 := Tryd.func85.trans (congrArg some (by kernel_rfl))
  f219 := Tryd.func86.trans (congrArg some (by kernel_rfl))
  f221 := Tryd.func56.trans (congrArg some (by kernel_rfl))
  f224 := Tryd.func91.trans (congrArg some (by kernel_rfl))
  f225 := Tryd.func90.trans (congrArg some (by kernel_rfl))
  f260 := Tryd.func88.trans (congrArg some (by kernel_rfl))
  f266 := Tryd.func94.trans (congrArg some (by kernel_rfl))
  f267 := Tryd.func92.trans (congrArg some (by kernel_rfl))
  f268 := Tryd.func73.trans (congrArg some (by kernel_rfl))
  f314 := Tryd.func95.trans (congrArg some (by kernel_rfl))
  t0 := Tryd.underlying0
  a0 := Tryd.isAgg0
  z0 := Tryd.sizeOf0
  v0 := Tryd.zeroValue0
  t3 := Tryd.underlying3
  a3 := Tryd.isAgg3
  z3 := Tryd.sizeOf3
  v3 := Tryd.zeroValue3
  t4 := Tryd.underlying4
  a4 := Tryd.isAgg4
  z4 := Tryd.sizeOf4
  v4 := Tryd.zeroValue4
  t5 := Tryd.underlying5
  a5 := Tryd.isAgg5
  z5 := Tryd.sizeOf5
  v5 := Tryd.zeroValue5
  t9 := Tryd.underlying9
  a9 := Tryd.isAgg9
  z9 := Tryd.sizeOf9
  v9 := Tryd.zeroValue9
  t21 := Tryd.underlying21
  a21 := Tryd.isAgg21
  z21 := Tryd.sizeOf21
  v21 := Tryd.zeroValue21
  t31 := Tryd.underlying34
  a31 := Tryd.isAgg34
  z31 := Tryd.sizeOf34
  v31 := Tryd.zeroValue34
  t46 := Tryd.underlying78
  a46 := Tryd.isAgg78
  z46 := Tryd.sizeOf78
  v46 := Tryd.zeroValue78
  t51 := Tryd.underlying93
  a51 := Tryd.isAgg93
  z51 := Tryd.sizeOf93
  v51 := Tryd.zeroValue93
  t105 := Tryd.underlying86
  a105 := Tryd.isAgg86
  z105 := Tryd.sizeOf86
  v105 := Tryd.zeroValue86
  t119 := Tryd.underlying89
  a119 := Tryd.isAgg89
  z119 := Tryd.sizeOf89
  t138 := Tryd.underlying91
  a138 := Tryd.isAgg91
  z138 := Tryd.sizeOf91
  v138 := Tryd.zeroValue91
  t139 := Tryd.underlying92
  a139 := Tryd.isAgg92
  z139 := Tryd.sizeOf92
  v139 := Tryd.zeroValue92
  t146 := Tryd.underlying94
  a146 := Tryd.isAgg94
  z146 := Tryd.sizeOf94
  v146 := Tryd.zeroValue94
  g1 := by kernel_rfl
  g3 := by kernel_rfl
  g4 := by kernel_rfl }
theorem chk_all0 : (okL.all fun f => chkFn Tryd.prog cfg0 f) = true := by kernel_rfl
theorem chk_all : (okL.all fun f => chkFn Tryd.prog cfg f) = true := by kernel_rfl
theorem ext0 : ∀ g s, cfg0.ext g = some s → ∀ args H r H', s args H = some (r, H') → CallOK Tryd.prog (cfg0.sig g) g args H r H' := by
  intro g s hs args H r H' h
  by_cases h0 : g = 60
  · subst h0
    injection hs with hs; subst hs
    exact insert_ok insLays h
  by_cases h1 : g = 63
  · subst h1
    injection hs with hs; subst hs
    exact growT_ok (n := 1) (by_ := 8) (z := .int .i64 0) growintint (by decide) (by kernel_rfl) rfl h
  by_cases h2 : g = 17
  · subst h2
    injection hs with hs; subst hs
    exact joinT_ok joinLays joinExtra h
  by_cases h3 : g = 30
  · subst h3
    injection hs with hs; subst hs
    exact splitT_ok lays146 (by kernel_rfl) (by kernel_rfl) h
  · simp [cfg0, h0, h1, h2, h3] at hs
theorem extc0 : ∀ g, (cfg0.ext g).isSome = true → Callable Tryd.prog g := by
  intro g h
  by_cases h0 : g = 60
  · subst h0; exact ⟨_, Tryd.func60, rfl, by decide⟩
  by_cases h1 : g = 63
  · subst h1; exact ⟨_, Tryd.func63, rfl, by decide⟩
  by_cases h2 : g = 17
  · subst h2; exact ⟨_, Tryd.func17, rfl, by decide⟩
  by_cases h3 : g = 30
  · subst h3; exact ⟨_, Tryd.func30, rfl, by decide⟩
  · simp [cfg0, h0, h1, h2, h3] at h
theorem world0 : World0 Tryd.prog cfg0 where
  ext := ext0
  extc := extc0
  chk := by
    intro g _ h
    exact List.all_eq_true.1 chk_all0 g (by simpa [cfg0] using h)
  dyn := by
    intro g h
    simp only [cfg, cfg0, beq_iff_eq] at h
    subst h
    rfl
  mixed := by kernel_rfl
theorem run_0 : ((lcallX Tryd.prog cfg0 400 5 [] []).map fun r => eqA 2 r.1 (.b true)) = some true := by kernel_rfl
theorem closed_cases {g : Nat} (h : closedL.contains g = true) : g = 5 := by
  simpa [closedL] using h
theorem world : World0 Tryd.prog cfg where
  ext := by
    intro g s hs args H r H' h
    by_cases hc : closedL.contains g = true
    · have e : cfg.ext g = some fun args H => closedT true H args := by
        show (if closedL.contains g = true then _ else _) = _
        rw [if_pos hc]
      rw [e] at hs
      injection hs with hs; subst hs
      rcases closed_cases hc with rfl
      · exact closedT_ok world0 rfl run_0 h
    · have e : cfg.ext g = cfg0.ext g := by
        show (if closedL.contains g = true then _ else _) = _
        rw [if_neg hc]
      rw [e] at hs
      exact ext0 g s hs args H r H' h
  extc := by
    intro g h
    by_cases hc : closedL.contains g = true
    · rcases closed_cases hc with rfl
      · exact ⟨_, Tryd.func5, rfl, by decide⟩
    · have e : cfg.ext g = cfg0.ext g := by
        show (if closedL.contains g = true then _ else _) = _
        rw [if_neg hc]
      rw [e] at h
      exact extc0 g h
  chk := by
    intro g _ h
    exact List.all_eq_true.1 chk_all g (by simpa [cfg, cfg0] using h)
  dyn := by
    intro g h
    simp only [cfg, cfg0, beq_iff_eq] at h
    subst h
    rfl
  mixed := by kernel_rfl
/-- The examples hold. -/
theorem sprlaw5_first_w {H : Heap} : WF Tryd.prog cfg 5 [] H (fun r H' => r = .b true ∧ H' = H) := WF.ext (g := fun args H => closedT true H args) rfl (r := .b true) (H' := H) rfl ⟨rfl, rfl⟩
theorem glob_max (W : World) (h : W.ShapedOpen Tryd.prog) : ∀ g, Tryd.prog.globalNamed "internal/bytealg.MaxLen" = some g → ∃ m, W.cell? ⟨g, 0, none⟩ = some (.int .i64 m) := by
  intro g hg
  obtain rfl : 0 = g := Option.some.inj ((show Tryd.prog.globalNamed "internal/bytealg.MaxLen" = some 0 by kernel_rfl).symm.trans hg)
  exact Go.Proofs.cell_of_shapedOpen_int (zero := #[.int .i64 0]) (t := 3) h (of_decide_eq_true (by kernel_rfl)) (by kernel_rfl) rfl (by kernel_rfl) (by kernel_rfl) Tryd.underlying3
theorem glob_ok (W : World) (h : W.ShapedOpen Tryd.prog) : GlobOK Tryd.prog W :=
  ⟨glob_max W h, fun hp => by rw [show Tryd.prog.globalNamed "internal/strconv.uint64pow10" = none by kernel_rfl] at hp; cases hp⟩
end Go.Proofs
