/- What the configuration needs: each function is looked at ahead; contracts of the library; the chapters' examples, run. -/
import Derived.Test.YtkbfklckeloamaaGreatDoorCfgR8T
set_option linter.unusedVariables false
set_option linter.unusedSimpArgs false
namespace Go.Proofs
open Go.Lv Go.Shelf
def insLays_ren : Shelf.Ren := ⟨fun k => if k = 21 then 119 else if k = 27 then 130 else if k = 28 then 131 else if k = 35 then 133 else if k = 39 then 134 else k, fun k => if k = 3 then 3 else if k = 4 then 4 else if k = 22 then 43 else if k = 0 then 0 else k, fun x => x⟩
theorem insLays : Lays2.n21 Tryz.prog insLays_ren where
  mixed := by kernel_rfl
  f21 := by show Tryz.prog.funcs[119]? = _; rw [Tryz.func119]; rfl
  f27 := by show Tryz.prog.funcs[130]? = _; rw [Tryz.func130]; rfl
  f28 := by show Tryz.prog.funcs[131]? = _; rw [Tryz.func131]; rfl
  f35 := by show Tryz.prog.funcs[133]? = _; rw [Tryz.func133]; rfl
  f39 := by show Tryz.prog.funcs[134]? = _; rw [Tryz.func134]; rfl
  t0 := Tryz.underlying0
  a0 := Tryz.isAgg0
  z0 := Tryz.sizeOf0
  v0 := Tryz.zeroValue0
  t3 := Tryz.underlying3
  a3 := Tryz.isAgg3
  z3 := Tryz.sizeOf3
  v3 := Tryz.zeroValue3
  t4 := Tryz.underlying4
  a4 := Tryz.isAgg4
  z4 := Tryz.sizeOf4
  v4 := Tryz.zeroValue4
  t22 := Tryz.underlying43
  a22 := Tryz.isAgg43
  z22 := Tryz.sizeOf43
  v22 := Tryz.zeroValue43
  i3 := by kernel_rfl
def growintint_ren : Shelf.Ren := ⟨fun k => if k = 4 then 96 else k, fun k => if k = 0 then 0 else if k = 3 then 3 else if k = 4 then 4 else if k = 9 then 9 else if k = 20 then 20 else if k = 22 then 43 else if k = 25 then 3 else k, fun x => x⟩
theorem growintint : Lays8.n4 Tryz.prog growintint_ren where
  mixed := by kernel_rfl
  f4 := ⟨_, rfl, by show Tryz.prog.funcs[96]? = _; rw [Tryz.func96]; rfl⟩
  t0 := Tryz.underlying0
  a0 := Tryz.isAgg0
  z0 := Tryz.sizeOf0
  v0 := Tryz.zeroValue0
  t3 := Tryz.underlying3
  a3 := Tryz.isAgg3
  z3 := Tryz.sizeOf3
  v3 := Tryz.zeroValue3
  t4 := Tryz.underlying4
  a4 := Tryz.isAgg4
  z4 := Tryz.sizeOf4
  v4 := Tryz.zeroValue4
  t9 := Tryz.underlying9
  a9 := Tryz.isAgg9
  z9 := Tryz.sizeOf9
  v9 := Tryz.zeroValue9
  t20 := Tryz.underlying20
  a20 := Tryz.isAgg20
  z20 := Tryz.sizeOf20
  v20 := Tryz.zeroValue20
  t22 := Tryz.underlying43
  a22 := Tryz.isAgg43
  z22 := Tryz.sizeOf43
  v22 := Tryz.zeroValue43
def joinLays_ren : Shelf.Ren := ⟨fun k => if k = 156 then 47 else if k = 165 then 78 else if k = 166 then 79 else if k = 169 then 80 else if k = 240 then 108 else if k = 241 then 109 else if k = 276 then 122 else if k = 277 then 123 else k, fun k => if k = 31 then 58 else if k = 9 then 9 else if k = 3 then 3 else if k = 4 then 4 else if k = 0 then 0 else if k = 20 then 20 else if k = 72 then 89 else if k = 76 then 93 else if k = 70 then 87 else if k = 37 then 37 else if k = 75 then 92 else if k = 127 then 109 else if k = 164 then 114 else if k = 5 then 5 else if k = 80 then 40 else k, fun x => x⟩
theorem joinLays : Lays.n156 Tryz.prog joinLays_ren where
  mixed := by kernel_rfl
  f156 := by show Tryz.prog.funcs[47]? = _; rw [Tryz.func47]; rfl
  f165 := by show Tryz.prog.funcs[78]? = _; rw [Tryz.func78]; rfl
  f166 := by show Tryz.prog.funcs[79]? = _; rw [Tryz.func79]; rfl
  f169 := by show Tryz.prog.funcs[80]? = _; rw [Tryz.func80]; rfl
  f240 := by show Tryz.prog.funcs[108]? = _; rw [Tryz.func108]; rfl
  f241 := by show Tryz.prog.funcs[109]? = _; rw [Tryz.func109]; rfl
  f276 := by show Tryz.prog.funcs[122]? = _; rw [Tryz.func122]; rfl
  f277 := by show Tryz.prog.funcs[123]? = _; rw [Tryz.func123]; rfl
  t0 := Tryz.underlying0
  a0 := Tryz.isAgg0
  z0 := Tryz.sizeOf0
  v0 := Tryz.zeroValue0
  t3 := Tryz.underlying3
  a3 := Tryz.isAgg3
  z3 := Tryz.sizeOf3
  v3 := Tryz.zeroValue3
  t4 := Tryz.underlying4
  a4 := Tryz.isAgg4
  z4 := Tryz.sizeOf4
  v4 := Tryz.zeroValue4
  t9 := Tryz.underlying9
  a9 := Tryz.isAgg9
  z9 := Tryz.sizeOf9
  v9 := Tryz.zeroValue9
  t20 := Tryz.underlying20
  a20 := Tryz.isAgg20
  z20 := Tryz.sizeOf20
  v20 := Tryz.zeroValue20
  t31 := Tryz.underlying58
  a31 := Tryz.isAgg58
  z31 := Tryz.sizeOf58
  v31 := Tryz.zeroValue58
  t37 := Tryz.underlying37
  a37 := Tryz.isAgg37
  z37 := Tryz.sizeOf37
  v37 := Tryz.zeroValue37
  t70 := Tryz.underlying87
  a70 := Tryz.isAgg87
  z70 := Tryz.sizeOf87
  v70 := Tryz.zeroValue87
  t72 := Tryz.underlying89
  a72 := Tryz.isAgg89
  z72 := Tryz.sizeOf89
  v72 := Tryz.zeroValue89
  t75 := Tryz.underlying92
  a75 := Tryz.isAgg92
  z75 := Tryz.sizeOf92
  v75 := Tryz.zeroValue92
  t76 := Tryz.underlying93
  a76 := Tryz.isAgg93
  z76 := Tryz.sizeOf93
  v76 := Tryz.zeroValue93
  t127 := Tryz.underlying109
  a127 := Tryz.isAgg109
  z127 := Tryz.sizeOf109
  v127 := Tryz.zeroValue109
  t164 := Tryz.underlying114
  a164 := Tryz.isAgg114
  z164 := Tryz.sizeOf114
  v164 := Tryz.zeroValue114
theorem joinExtra : Builder.Extra Tryz.prog joinLays_ren where
  sizeBuilder := by kernel_rfl
  liesBuilder := by kernel_rfl
  t5 := Tryz.underlying5
  a5 := Tryz.isAgg5
  z5 := Tryz.sizeOf5
  v5 := Tryz.zeroValue5
  infoByte := by kernel_rfl
  cellsByte := by kernel_rfl
  sizeByte := by kernel_rfl
  neB5 := by decide
def lays146_ren : Shelf.Ren := ⟨fun | 146 => 67 | 221 => 93 | 268 => 113 | 138 => 114 | 143 => 115 | 195 => 125 | 197 => 126 | 218 => 127 | 219 => 92 | 260 => 132 | 217 => 53 | 225 => 110 | 224 => 111 | 267 => 112 | 266 => 83 | 314 => 124 | n => n, fun | 9 => 9 | 31 => 58 | 3 => 3 | 4 => 4 | 0 => 0 | 105 => 119 | 21 => 21 | 5 => 5 | 46 => 50 | 119 => 123 | 139 => 126 | 138 => 125 | 146 => 116 | 51 => 23 | n => n, fun | 1 => 0 | 3 => 1 | 4 => 2 | n => n⟩
theorem lays146 : Go.Proofs.Lays.n146 Tryz.prog lays146_ren := {
  mixed := by kernel_rfl
  f138 := Tryz.func114.trans (congrArg some (by kernel_rfl))
  f143 := Tryz.func115.trans (congrArg some (by kernel_rfl))
  f146 := Tryz.func67.trans (congrArg some (by kernel_rfl))
  f195 := Tryz.func125.trans (congrArg some (by kernel_rfl))
  f197 := Tryz.func126.trans (congrArg some (by kernel_rfl))
  f217 := Tryz.func53.trans (congrArg some (by kernel_rfl))
  f218 := Tryz.func127.trans (congrArg some (by kernel_rfl))
  f219 := Tryz.func92.trans (congrArg some (by kernel_rfl))
  f221 := Tryz.func93.trans (congrArg some (by kernel_rfl))
  f224 := Tryz.func111.trans (congrArg some (by kernel_rfl))
  f225 := Tryz.func110.trans (congrArg some (by kernel_rfl))
  f260 := Tryz.func132.trans (congrArg some (by kernel_rfl))
  f266 := Tryz.func83.trans (congrArg some (by kernel_rfl))
  f267 := Tryz.func112.trans (congrArg some (by kernel_rfl))
  f268 := Tryz.func113.trans (congrArg some (by kernel_rfl))
  f314 := Tryz.func124.trans (congrArg some (by kernel_rfl))
  t0 := Tryz.underlying0
  a0 := Tryz.isAgg0
  z0 := Tryz.sizeOf0
  v0 := Tryz.zeroValue0
  t3 := Tryz.underlying3
  a3 := Tryz.isAgg3
  z3 := Tryz.sizeOf3
  v3 := Tryz.zeroValue3
  t4 := Tryz.underlying4
  a4 := Tryz.isAgg4
  z4 := Tryz.sizeOf4
  v4 := Tryz.zeroValue4
  t5 := Tryz.underlying5
  a5 := Tryz.isAgg5
  z5 := Tryz.sizeOf5
  v5 := Tryz.zeroValue5
  t9 := Tryz.underlying9
  a9 := Tryz.isAgg9
  z9 := Tryz.sizeOf9
  v9 := Tryz.zeroValue9
  t21 := Tryz.underlying21
  a21 := Tryz.isAgg21
  z21 := Tryz.sizeOf21
  v21 := Tryz.zeroValue21
  t31 := Tryz.underlying58
  a31 := Tryz.isAgg58
  z31 := Tryz.sizeOf58
  v31 := Tryz.zeroValue58
  t46 := Tryz.underlying50
  a46 := Tryz.isAgg50
  z46 := Tryz.sizeOf50
  v46 := Tryz.zeroValue50
  t51 := Tryz.underlying23
  a51 := Tryz.isAgg23
  z51 := Tryz.sizeOf23
  v51 := Tryz.zeroValue23
  t105 := Tryz.underlying119
  a105 := Tryz.isAgg119
  z105 := Tryz.sizeOf119
  v105 := Tryz.zeroValue119
  t119 := Tryz.underlying123
  a119 := Tryz.isAgg123
  z119 := Tryz.sizeOf123
  t138 := Tryz.underlying125
  a138 := Tryz.isAgg125
  z138 := Tryz.sizeOf125
  v138 := Tryz.zeroValue125
  t139 := Tryz.underlying126
  a139 := Tryz.isAgg126
  z139 := Tryz.sizeOf126
  v139 := Tryz.zeroValue126
  t146 := Tryz.underlying116
  a146 := Tryz.isAgg116
  z146 := Tryz.sizeOf116
  v146 := Tryz.zeroValue116
  g1 := by kernel_rfl
  g3 := by kernel_rfl
  g4 := by kernel_rfl }
def lays145_ren : Shelf.Ren := ⟨fun | 145 => 42 | 220 => 66 | 219 => 92 | 217 => 53 | 225 => 110 | 224 => 111 | 267 => 112 | 266 => 83 | 314 => 124 | n => n, fun | 9 => 9 | 4 => 4 | 59 => 63 | 3 => 3 | 5 => 5 | 46 => 50 | 146 => 116 | 51 => 23 | n => n, fun | 1 => 0 | n => n⟩
theorem lays145 : Go.Proofs.Lays.n145 Tryz.prog lays145_ren := {
  mixed := by kernel_rfl
  f145 := Tryz.func42.trans (congrArg some (by kernel_rfl))
  f217 := Tryz.func53.trans (congrArg some (by kernel_rfl))
  f219 := Tryz.func92.trans (congrArg some (by kernel_rfl))
  f220 := Tryz.func66.trans (congrArg some (by kernel_rfl))
  f224 := Tryz.func111.trans (congrArg some (by kernel_rfl))
  f225 := Tryz.func110.trans (congrArg some (by kernel_rfl))
  f266 := Tryz.func83.trans (congrArg some (by kernel_rfl))
  f267 := Tryz.func112.trans (congrArg some (by kernel_rfl))
  f314 := Tryz.func124.trans (congrArg some (by kernel_rfl))
  t3 := Tryz.underlying3
  a3 := Tryz.isAgg3
  z3 := Tryz.sizeOf3
  v3 := Tryz.zeroValue3
  t4 := Tryz.underlying4
  a4 := Tryz.isAgg4
  z4 := Tryz.sizeOf4
  v4 := Tryz.zeroValue4
  t5 := Tryz.underlying5
  a5 := Tryz.isAgg5
  z5 := Tryz.sizeOf5
  v5 := Tryz.zeroValue5
  t9 := Tryz.underlying9
  a9 := Tryz.isAgg9
  z9 := Tryz.sizeOf9
  v9 := Tryz.zeroValue9
  t46 := Tryz.underlying50
  a46 := Tryz.isAgg50
  z46 := Tryz.sizeOf50
  v46 := Tryz.zeroValue50
  t51 := Tryz.underlying23
  a51 := Tryz.isAgg23
  z51 := Tryz.sizeOf23
  v51 := Tryz.zeroValue23
  t59 := Tryz.underlying63
  a59 := Tryz.isAgg63
  z59 := Tryz.sizeOf63
  v59 := Tryz.zeroValue63
  t146 := Tryz.underlying116
  a146 := Tryz.isAgg116
  z146 := Tryz.sizeOf116
  v146 := Tryz.zeroValue116
  g1 := by kernel_rfl }
def lays137_ren : Shelf.Ren := ⟨fun | 137 => 30 | 217 => 53 | 266 => 83 | n => n, fun | 9 => 9 | 5 => 5 | 3 => 3 | n => n, fun | n => n⟩
theorem lays137 : Go.Proofs.Lays.n137 Tryz.prog lays137_ren := {
  mixed := by kernel_rfl
  f137 := Tryz.func30.trans (congrArg some (by kernel_rfl))
  f217 := Tryz.func53.trans (congrArg some (by kernel_rfl))
  f266 := Tryz.func83.trans (congrArg some (by kernel_rfl))
  t3 := Tryz.underlying3
  a3 := Tryz.isAgg3
  z3 := Tryz.sizeOf3
  v3 := Tryz.zeroValue3
  t5 := Tryz.underlying5
  a5 := Tryz.isAgg5
  z5 := Tryz.sizeOf5
  v5 := Tryz.zeroValue5
  t9 := Tryz.underlying9
  a9 := Tryz.isAgg9
  z9 := Tryz.sizeOf9
  v9 := Tryz.zeroValue9 }
theorem chk_all0 : (okL.all fun f => chkFn Tryz.prog cfg0 f) = true := by kernel_rfl
theorem chk_all : (okL.all fun f => chkFn Tryz.prog cfg f) = true := by kernel_rfl
theorem ext0 : ∀ g s, cfg0.ext g = some s → ∀ args H r H', s args H = some (r, H') → CallOK Tryz.prog (cfg0.sig g) g args H r H' := by
  intro g s hs args H r H' h
  by_cases h0 : g = 119
  · subst h0
    injection hs with hs; subst hs
    exact insert_ok insLays h
  by_cases h1 : g = 96
  · subst h1
    injection hs with hs; subst hs
    exact growT_ok (n := 1) (by_ := 8) (z := .int .i64 0) growintint (by decide) (by kernel_rfl) rfl h
  by_cases h2 : g = 47
  · subst h2
    injection hs with hs; subst hs
    exact joinT_ok joinLays joinExtra h
  by_cases h3 : g = 67
  · subst h3
    injection hs with hs; subst hs
    exact splitT_ok lays146 (by kernel_rfl) (by kernel_rfl) h
  by_cases h4 : g = 42
  · subst h4
    injection hs with hs; subst hs
    exact cutT_ok lays145 (by kernel_rfl) h
  by_cases h5 : g = 30
  · subst h5
    injection hs with hs; subst hs
    exact indexByteT_ok lays137 h
  · simp [cfg0, h0, h1, h2, h3, h4, h5] at hs
theorem extc0 : ∀ g, (cfg0.ext g).isSome = true → Callable Tryz.prog g := by
  intro g h
  by_cases h0 : g = 119
  · subst h0; exact ⟨_, Tryz.func119, rfl, by decide⟩
  by_cases h1 : g = 96
  · subst h1; exact ⟨_, Tryz.func96, rfl, by decide⟩
  by_cases h2 : g = 47
  · subst h2; exact ⟨_, Tryz.func47, rfl, by decide⟩
  by_cases h3 : g = 67
  · subst h3; exact ⟨_, Tryz.func67, rfl, by decide⟩
  by_cases h4 : g = 42
  · subst h4; exact ⟨_, Tryz.func42, rfl, by decide⟩
  by_cases h5 : g = 30
  · subst h5; exact ⟨_, Tryz.func30, rfl, by decide⟩
  · simp [cfg0, h0, h1, h2, h3, h4, h5] at h
theorem world0 : World0 Tryz.prog cfg0 where
  ext := ext0
  extc := extc0
  chk := by
    intro g _ h
    exact List.all_eq_true.1 chk_all0 g (by simpa [cfg0] using h)
  dyn := by
    intro g h
    simp only [cfg, cfg0, beq_iff_eq] at h
    subst h
    rfl
  mixed := by kernel_rfl
theorem run_0 : ((lcallX Tryz.prog cfg0 400 4 [] []).map fun r => eqA 2 r.1 (.b true)) = some true := by kernel_rfl
theorem closed_cases {g : Nat} (h : closedL.contains g = true) : g = 4 := by
  simpa [closedL] using h
theorem world : World0 Tryz.prog cfg where
  ext := by
    intro g s hs args H r H' h
    by_cases hc : closedL.contains g = true
    · have e : cfg.ext g = some fun args H => closedT true H args := by
        show (if closedL.contains g = true then _ else _) = _
        rw [if_pos hc]
      rw [e] at hs
      injection hs with hs; subst hs
      rcases closed_cases hc with rfl
      · exact closedT_ok world0 rfl run_0 h
    · have e : cfg.ext g = cfg0.ext g := by
        show (if closedL.contains g = true then _ else _) = _
        rw [if_neg hc]
      rw [e] at hs
      exact ext0 g s hs args H r H' h
  extc := by
    intro g h
    by_cases hc : closedL.contains g = true
    · rcases closed_cases hc with rfl
      · exact ⟨_, Tryz.func4, rfl, by decide⟩
    · have e : cfg.ext g = cfg0.ext g := by
        show (if closedL.contains g = true then _ else _) = _
        rw [if_neg hc]
      rw [e] at h
      exact extc0 g h
  chk := by
    intro g _ h
    exact List.all_eq_true.1 chk_all g (by simpa [cfg, cfg0] using h)
  dyn := by
    intro g h
    simp only [cfg, cfg0, beq_iff_eq] at h
    subst h
    rfl
  mixed := by kernel_rfl
/-- The examples hold. -/
theorem sprlaw8_first_w {H : Heap} : WF Tryz.prog cfg 4 [] H (fun r H' => r = .b true ∧ H' = H) := WF.ext (g := fun args H => closedT true H args) rfl (r := .b true) (H' := H) rfl ⟨rfl, rfl⟩
theorem glob_max (W : World) (h : W.ShapedOpen Tryz.prog) : ∀ g, Tryz.prog.globalNamed "internal/bytealg.MaxLen" = some g → ∃ m, W.cell? ⟨g, 0, none⟩ = some (.int .i64 m) := by
  intro g hg
  obtain rfl : 0 = g := Option.some.inj ((show Tryz.prog.globalNamed "internal/bytealg.MaxLen" = some 0 by kernel_rfl).symm.trans hg)
  exact Go.Proofs.cell_of_shapedOpen_int (zero := #[.int .i64 0]) (t := 3) h (of_decide_eq_true (by kernel_rfl)) (by kernel_rfl) rfl (by kernel_rfl) (by kernel_rfl) Tryz.underlying3
theorem glob_ok (W : World) (h : W.ShapedOpen Tryz.prog) : GlobOK Tryz.prog W :=
  ⟨glob_max W h, fun hp => by rw [show Tryz.prog.globalNamed "internal/strconv.uint64pow10" = none by kernel_rfl] at hp; cases hp⟩
end Go.Proofs
