/- What the configuration needs: each function is looked at ahead; contracts of the library; the chapters' examples, run. -/
import Derived.Test.YtiboedaicjkfnaaGreatDoorCfgR8U
set_option linter.unusedVariables false
set_option linter.unusedSimpArgs false
namespace Go.Proofs
open Go.Lv Go.Shelf
def insLays_ren : Shelf.Ren := ⟨fun k => if k = 21 then 152 else if k = 27 then 163 else if k = 28 then 164 else if k = 35 then 166 else if k = 39 then 167 else k, fun k => if k = 3 then 3 else if k = 4 then 4 else if k = 22 then 55 else if k = 0 then 0 else k, fun x => x⟩
theorem insLays : Lays2.n21 Tryz.prog insLays_ren where
 mixed := by kernel_rfl
 f21 := by show Tryz.prog.funcs[152]? = _; rw [Tryz.func152]; rfl
 f27 := by show Tryz.prog.funcs[163]? = _; rw [Tryz.func163]; rfl
 f28 := by show Tryz.prog.funcs[164]? = _; rw [Tryz.func164]; rfl
 f35 := by show Tryz.prog.funcs[166]? = _; rw [Tryz.func166]; rfl
 f39 := by show Tryz.prog.funcs[167]? = _; rw [Tryz.func167]; rfl
 t0 := Tryz.underlying0
 a0 := Tryz.isAgg0
 z0 := Tryz.sizeOf0
 v0 := Tryz.zeroValue0
 t3 := Tryz.underlying3
 a3 := Tryz.isAgg3
 z3 := Tryz.sizeOf3
 v3 := Tryz.zeroValue3
 t4 := Tryz.underlying4
 a4 := Tryz.isAgg4
 z4 := Tryz.sizeOf4
 v4 := Tryz.zeroValue4
 t22 := Tryz.underlying55
 a22 := Tryz.isAgg55
 z22 := Tryz.sizeOf55
 v22 := Tryz.zeroValue55
 i3 := by kernel_rfl
def growintint_ren : Shelf.Ren := ⟨fun k => if k = 4 then 118 else k, fun k => if k = 0 then 0 else if k = 3 then 3 else if k = 4 then 4 else if k = 9 then 9 else if k = 20 then 20 else if k = 22 then 55 else if k = 25 then 3 else k, fun x => x⟩
theorem growintint : Lays8.n4 Tryz.prog growintint_ren where
 mixed := by kernel_rfl
 f4 := ⟨_, rfl, by show Tryz.prog.funcs[118]? = _; rw [Tryz.func118]; rfl⟩
 t0 := Tryz.underlying0
 a0 := Tryz.isAgg0
 z0 := Tryz.sizeOf0
 v0 := Tryz.zeroValue0
 t3 := Tryz.underlying3
 a3 := Tryz.isAgg3
 z3 := Tryz.sizeOf3
 v3 := Tryz.zeroValue3
 t4 := Tryz.underlying4
 a4 := Tryz.isAgg4
 z4 := Tryz.sizeOf4
 v4 := Tryz.zeroValue4
 t9 := Tryz.underlying9
 a9 := Tryz.isAgg9
 z9 := Tryz.sizeOf9
 v9 := Tryz.zeroValue9
 t20 := Tryz.underlying20
 a20 := Tryz.isAgg20
 z20 := Tryz.sizeOf20
 v20 := Tryz.zeroValue20
 t22 := Tryz.underlying55
 a22 := Tryz.isAgg55
 z22 := Tryz.sizeOf55
 v22 := Tryz.zeroValue55
def joinLays_ren : Shelf.Ren := ⟨fun k => if k = 156 then 23 else if k = 165 then 40 else if k = 166 then 41 else if k = 169 then 42 else if k = 240 then 69 else if k = 241 then 70 else if k = 276 then 102 else if k = 277 then 103 else k, fun k => if k = 31 then 44 else if k = 9 then 9 else if k = 3 then 3 else if k = 4 then 4 else if k = 0 then 0 else if k = 20 then 20 else if k = 72 then 65 else if k = 76 then 69 else if k = 70 then 63 else if k = 37 then 43 else if k = 75 then 68 else if k = 127 then 92 else if k = 164 then 113 else if k = 5 then 5 else if k = 80 then 71 else k, fun x => x⟩
theorem joinLays : Lays.n156 Tryz.prog joinLays_ren where
 mixed := by kernel_rfl
 f156 := by show Tryz.prog.funcs[23]? = _; rw [Tryz.func23]; rfl
 f165 := by show Tryz.prog.funcs[40]? = _; rw [Tryz.func40]; rfl
 f166 := by show Tryz.prog.funcs[41]? = _; rw [Tryz.func41]; rfl
 f169 := by show Tryz.prog.funcs[42]? = _; rw [Tryz.func42]; rfl
 f240 := by show Tryz.prog.funcs[69]? = _; rw [Tryz.func69]; rfl
 f241 := by show Tryz.prog.funcs[70]? = _; rw [Tryz.func70]; rfl
 f276 := by show Tryz.prog.funcs[102]? = _; rw [Tryz.func102]; rfl
 f277 := by show Tryz.prog.funcs[103]? = _; rw [Tryz.func103]; rfl
 t0 := Tryz.underlying0
 a0 := Tryz.isAgg0
 z0 := Tryz.sizeOf0
 v0 := Tryz.zeroValue0
 t3 := Tryz.underlying3
 a3 := Tryz.isAgg3
 z3 := Tryz.sizeOf3
 v3 := Tryz.zeroValue3
 t4 := Tryz.underlying4
 a4 := Tryz.isAgg4
 z4 := Tryz.sizeOf4
 v4 := Tryz.zeroValue4
 t9 := Tryz.underlying9
 a9 := Tryz.isAgg9
 z9 := Tryz.sizeOf9
 v9 := Tryz.zeroValue9
 t20 := Tryz.underlying20
 a20 := Tryz.isAgg20
 z20 := Tryz.sizeOf20
 v20 := Tryz.zeroValue20
 t31 := Tryz.underlying44
 a31 := Tryz.isAgg44
 z31 := Tryz.sizeOf44
 v31 := Tryz.zeroValue44
 t37 := Tryz.underlying43
 a37 := Tryz.isAgg43
 z37 := Tryz.sizeOf43
 v37 := Tryz.zeroValue43
 t70 := Tryz.underlying63
 a70 := Tryz.isAgg63
 z70 := Tryz.sizeOf63
 v70 := Tryz.zeroValue63
 t72 := Tryz.underlying65
 a72 := Tryz.isAgg65
 z72 := Tryz.sizeOf65
 v72 := Tryz.zeroValue65
 t75 := Tryz.underlying68
 a75 := Tryz.isAgg68
 z75 := Tryz.sizeOf68
 v75 := Tryz.zeroValue68
 t76 := Tryz.underlying69
 a76 := Tryz.isAgg69
 z76 := Tryz.sizeOf69
 v76 := Tryz.zeroValue69
 t127 := Tryz.underlying92
 a127 := Tryz.isAgg92
 z127 := Tryz.sizeOf92
 v127 := Tryz.zeroValue92
 t164 := Tryz.underlying113
 a164 := Tryz.isAgg113
 z164 := Tryz.sizeOf113
 v164 := Tryz.zeroValue113
theorem joinExtra : Builder.Extra Tryz.prog joinLays_ren where
 sizeBuilder := by kernel_rfl
 liesBuilder := by kernel_rfl
 t5 := Tryz.underlying5
 a5 := Tryz.isAgg5
 z5 := Tryz.sizeOf5
 v5 := Tryz.zeroValue5
 infoByte := by kernel_rfl
 cellsByte := by kernel_rfl
 sizeByte := by kernel_rfl
 neB5 := by decide
def lays146_ren : Shelf.Ren := ⟨fun | 146 => 84 | 221 => 115 | 268 => 146 | 138 => 147 | 143 => 148 | 195 => 158 | 197 => 159 | 218 => 160 | 219 => 114 | 260 => 165 | 217 => 65 | 225 => 143 | 224 => 144 | 267 => 145 | 266 => 97 | 314 => 157 | n => n, fun | 9 => 9 | 31 => 44 | 3 => 3 | 4 => 4 | 0 => 0 | 105 => 143 | 21 => 21 | 5 => 5 | 46 => 62 | 119 => 149 | 139 => 152 | 138 => 151 | 146 => 140 | 51 => 22 | n => n, fun | 1 => 0 | 3 => 4 | 4 => 5 | n => n⟩
theorem lays146 : Go.Proofs.Lays.n146 Tryz.prog lays146_ren := {
 mixed := by kernel_rfl
 f138 := Tryz.func147.trans (congrArg some (by kernel_rfl))
 f143 := Tryz.func148.trans (congrArg some (by kernel_rfl))
 f146 := Tryz.func84.trans (congrArg some (by kernel_rfl))
 f195 := Tryz.func158.trans (congrArg some (by kernel_rfl))
 f197 := Tryz.func159.trans (congrArg some (by kernel_rfl))
 f217 := Tryz.func65.trans (congrArg some (by kernel_rfl))
 f218 := Tryz.func160.trans (congrArg some (by kernel_rfl))
 f219 := Tryz.func114.trans (congrArg some (by kernel_rfl))
 f221 := Tryz.func115.trans (congrArg some (by kernel_rfl))
 f224 := Tryz.func144.trans (congrArg some (by kernel_rfl))
 f225 := Tryz.func143.trans (congrArg some (by kernel_rfl))
 f260 := Tryz.func165.trans (congrArg some (by kernel_rfl))
 f266 := Tryz.func97.trans (congrArg some (by kernel_rfl))
 f267 := Tryz.func145.trans (congrArg some (by kernel_rfl))
 f268 := Tryz.func146.trans (congrArg some (by kernel_rfl))
 f314 := Tryz.func157.trans (congrArg some (by kernel_rfl))
 t0 := Tryz.underlying0
 a0 := Tryz.isAgg0
 z0 := Tryz.sizeOf0
 v0 := Tryz.zeroValue0
 t3 := Tryz.underlying3
 a3 := Tryz.isAgg3
 z3 := Tryz.sizeOf3
 v3 := Tryz.zeroValue3
 t4 := Tryz.underlying4
 a4 := Tryz.isAgg4
 z4 := Tryz.sizeOf4
 v4 := Tryz.zeroValue4
 t5 := Tryz.underlying5
 a5 := Tryz.isAgg5
 z5 := Tryz.sizeOf5
 v5 := Tryz.zeroValue5
 t9 := Tryz.underlying9
 a9 := Tryz.isAgg9
 z9 := Tryz.sizeOf9
 v9 := Tryz.zeroValue9
 t21 := Tryz.underlying21
 a21 := Tryz.isAgg21
 z21 := Tryz.sizeOf21
 v21 := Tryz.zeroValue21
 t31 := Tryz.underlying44
 a31 := Tryz.isAgg44
 z31 := Tryz.sizeOf44
 v31 := Tryz.zeroValue44
 t46 := Tryz.underlying62
 a46 := Tryz.isAgg62
 z46 := Tryz.sizeOf62
 v46 := Tryz.zeroValue62
 t51 := Tryz.underlying22
 a51 := Tryz.isAgg22
 z51 := Tryz.sizeOf22
 v51 := Tryz.zeroValue22
 t105 := Tryz.underlying143
 a105 := Tryz.isAgg143
 z105 := Tryz.sizeOf143
 v105 := Tryz.zeroValue143
 t119 := Tryz.underlying149
 a119 := Tryz.isAgg149
 z119 := Tryz.sizeOf149
 t138 := Tryz.underlying151
 a138 := Tryz.isAgg151
 z138 := Tryz.sizeOf151
 v138 := Tryz.zeroValue151
 t139 := Tryz.underlying152
 a139 := Tryz.isAgg152
 z139 := Tryz.sizeOf152
 v139 := Tryz.zeroValue152
 t146 := Tryz.underlying140
 a146 := Tryz.isAgg140
 z146 := Tryz.sizeOf140
 v146 := Tryz.zeroValue140
 g1 := by kernel_rfl
 g3 := by kernel_rfl
 g4 := by kernel_rfl }
def lays145_ren : Shelf.Ren := ⟨fun | 145 => 55 | 220 => 83 | 219 => 114 | 217 => 65 | 225 => 143 | 224 => 144 | 267 => 145 | 266 => 97 | 314 => 157 | n => n, fun | 9 => 9 | 4 => 4 | 59 => 75 | 3 => 3 | 5 => 5 | 46 => 62 | 146 => 140 | 51 => 22 | n => n, fun | 1 => 0 | n => n⟩
theorem lays145 : Go.Proofs.Lays.n145 Tryz.prog lays145_ren := {
 mixed := by kernel_rfl
 f145 := Tryz.func55.trans (congrArg some (by kernel_rfl))
 f217 := Tryz.func65.trans (congrArg some (by kernel_rfl))
 f219 := Tryz.func114.trans (congrArg some (by kernel_rfl))
 f220 := Tryz.func83.trans (congrArg some (by kernel_rfl))
 f224 := Tryz.func144.trans (congrArg some (by kernel_rfl))
 f225 := Tryz.func143.trans (congrArg some (by kernel_rfl))
 f266 := Tryz.func97.trans (congrArg some (by kernel_rfl))
 f267 := Tryz.func145.trans (congrArg some (by kernel_rfl))
 f314 := Tryz.func157.trans (congrArg some (by kernel_rfl))
 t3 := Tryz.underlying3
 a3 := Tryz.isAgg3
 z3 := Tryz.sizeOf3
 v3 := Tryz.zeroValue3
 t4 := Tryz.underlying4
 a4 := Tryz.isAgg4
 z4 := Tryz.sizeOf4
 v4 := Tryz.zeroValue4
 t5 := Tryz.underlying5
 a5 := Tryz.isAgg5
 z5 := Tryz.sizeOf5
 v5 := Tryz.zeroValue5
 t9 := Tryz.underlying9
 a9 := Tryz.isAgg9
 z9 := Tryz.sizeOf9
 v9 := Tryz.zeroValue9
 t46 := Tryz.underlying62
 a46 := Tryz.isAgg62
 z46 := Tryz.sizeOf62
 v46 := Tryz.zeroValue62
 t51 := Tryz.underlying22
 a51 := Tryz.isAgg22
 z51 := Tryz.sizeOf22
 v51 := Tryz.zeroValue22
 t59 := Tryz.underlying75
 a59 := Tryz.isAgg75
 z59 := Tryz.sizeOf75
 v59 := Tryz.zeroValue75
 t146 := Tryz.underlying140
 a146 := Tryz.isAgg140
 z146 := Tryz.sizeOf140
 v146 := Tryz.zeroValue140
 g1 := by kernel_rfl }
def lays137_ren : Shelf.Ren := ⟨fun | 137 => 37 | 217 => 65 | 266 => 97 | n => n, fun | 9 => 9 | 5 => 5 | 3 => 3 | n => n, fun | n => n⟩
theorem lays137 : Go.Proofs.Lays.n137 Tryz.prog lays137_ren := {
 mixed := by kernel_rfl
 f137 := Tryz.func37.trans (congrArg some (by kernel_rfl))
 f217 := Tryz.func65.trans (congrArg some (by kernel_rfl))
 f266 := Tryz.func97.trans (congrArg some (by kernel_rfl))
 t3 := Tryz.underlying3
 a3 := Tryz.isAgg3
 z3 := Tryz.sizeOf3
 v3 := Tryz.zeroValue3
 t5 := Tryz.underlying5
 a5 := Tryz.isAgg5
 z5 := Tryz.sizeOf5
 v5 := Tryz.zeroValue5
 t9 := Tryz.underlying9
 a9 := Tryz.isAgg9
 z9 := Tryz.sizeOf9
 v9 := Tryz.zeroValue9 }
def laysM171_ren : Shelf.Ren := ⟨fun | 171 => 22 | 243 => 39 | 246 => 68 | 283 => 98 | 284 => 99 | 285 => 100 | 286 => 101 | 129 => 131 | 317 => 130 | 318 => 132 | 319 => 133 | 320 => 134 | 337 => 155 | 338 => 156 | n => n, fun | 3 => 3 | 9 => 9 | 2 => 2 | 4 => 4 | 171 => 108 | 0 => 0 | 53 => 73 | 37 => 43 | 5 => 5 | 173 => 111 | 212 => 130 | 51 => 22 | 20 => 20 | 213 => 131 | 46 => 62 | 232 => 147 | 233 => 148 | n => n, fun | 17 => 1 | 18 => 2 | 19 => 3 | n => n⟩
theorem laysM171 : Go.Proofs.LaysM.n171 Tryz.prog laysM171_ren := {
 mixed := by kernel_rfl
 f129 := Tryz.func131.trans (congrArg some (by kernel_rfl))
 f171 := Tryz.func22.trans (congrArg some (by kernel_rfl))
 f243 := Tryz.func39.trans (congrArg some (by kernel_rfl))
 f246 := Tryz.func68.trans (congrArg some (by kernel_rfl))
 f283 := Tryz.func98.trans (congrArg some (by kernel_rfl))
 f284 := Tryz.func99.trans (congrArg some (by kernel_rfl))
 f285 := Tryz.func100.trans (congrArg some (by kernel_rfl))
 f286 := Tryz.func101.trans (congrArg some (by kernel_rfl))
 f317 := Tryz.func130.trans (congrArg some (by kernel_rfl))
 f318 := Tryz.func132.trans (congrArg some (by kernel_rfl))
 f319 := Tryz.func133.trans (congrArg some (by kernel_rfl))
 f320 := Tryz.func134.trans (congrArg some (by kernel_rfl))
 f337 := Tryz.func155.trans (congrArg some (by kernel_rfl))
 f338 := Tryz.func156.trans (congrArg some (by kernel_rfl))
 t0 := Tryz.underlying0
 a0 := Tryz.isAgg0
 z0 := Tryz.sizeOf0
 v0 := Tryz.zeroValue0
 t2 := Tryz.underlying2
 a2 := Tryz.isAgg2
 z2 := Tryz.sizeOf2
 v2 := Tryz.zeroValue2
 t3 := Tryz.underlying3
 a3 := Tryz.isAgg3
 z3 := Tryz.sizeOf3
 v3 := Tryz.zeroValue3
 t4 := Tryz.underlying4
 a4 := Tryz.isAgg4
 z4 := Tryz.sizeOf4
 v4 := Tryz.zeroValue4
 t5 := Tryz.underlying5
 a5 := Tryz.isAgg5
 z5 := Tryz.sizeOf5
 v5 := Tryz.zeroValue5
 t9 := Tryz.underlying9
 a9 := Tryz.isAgg9
 z9 := Tryz.sizeOf9
 v9 := Tryz.zeroValue9
 t20 := Tryz.underlying20
 a20 := Tryz.isAgg20
 z20 := Tryz.sizeOf20
 v20 := Tryz.zeroValue20
 t37 := Tryz.underlying43
 a37 := Tryz.isAgg43
 z37 := Tryz.sizeOf43
 v37 := Tryz.zeroValue43
 t46 := Tryz.underlying62
 a46 := Tryz.isAgg62
 z46 := Tryz.sizeOf62
 v46 := Tryz.zeroValue62
 t51 := Tryz.underlying22
 a51 := Tryz.isAgg22
 z51 := Tryz.sizeOf22
 v51 := Tryz.zeroValue22
 t53 := Tryz.underlying73
 a53 := Tryz.isAgg73
 z53 := Tryz.sizeOf73
 v53 := Tryz.zeroValue73
 t171 := Tryz.underlying108
 a171 := Tryz.isAgg108
 z171 := Tryz.sizeOf108
 v171 := Tryz.zeroValue108
 t173 := Tryz.underlying111
 a173 := Tryz.isAgg111
 z173 := Tryz.sizeOf111
 v173 := Tryz.zeroValue111
 t212 := Tryz.underlying130
 a212 := Tryz.isAgg130
 z212 := Tryz.sizeOf130
 v212 := Tryz.zeroValue130
 t213 := Tryz.underlying131
 a213 := Tryz.isAgg131
 z213 := Tryz.sizeOf131
 t232 := Tryz.underlying147
 a232 := Tryz.isAgg147
 z232 := Tryz.sizeOf147
 v232 := Tryz.zeroValue147
 t233 := Tryz.underlying148
 a233 := Tryz.isAgg148
 z233 := Tryz.sizeOf148
 v233 := Tryz.zeroValue148
 g17 := by kernel_rfl
 g18 := by kernel_rfl
 g19 := by kernel_rfl
 i0 := by kernel_rfl
 i2 := by kernel_rfl
 i3 := by kernel_rfl
 i4 := by kernel_rfl
 i5 := by kernel_rfl
 i9 := by kernel_rfl
 i20 := by kernel_rfl
 i37 := by kernel_rfl
 i46 := by kernel_rfl
 i51 := by kernel_rfl
 i53 := by kernel_rfl
 i171 := by kernel_rfl
 i173 := by kernel_rfl
 i212 := by kernel_rfl
 i232 := by kernel_rfl
 i233 := by kernel_rfl
 m17 := by kernel_rfl
 m18 := by kernel_rfl
 m19 := by kernel_rfl }
def tzLays_ren : Shelf.Ren := ⟨fun k => if k = 27 then 134 else if k = 28 then 155 else if k = 29 then 156 else k, fun k => if k = 0 then 0 else if k = 3 then 3 else if k = 4 then 4 else if k = 5 then 5 else if k = 22 then 73 else if k = 25 then 62 else if k = 27 then 22 else if k = 53 then 147 else if k = 54 then 148 else k, fun k => if k = 0 then 2 else if k = 1 then 3 else k⟩
theorem tzLays : Lays7.n27 Tryz.prog tzLays_ren where
 mixed := by kernel_rfl
 f27 := by show Tryz.prog.funcs[134]? = _; rw [Tryz.func134]; rfl
 f28 := by show Tryz.prog.funcs[155]? = _; rw [Tryz.func155]; rfl
 f29 := by show Tryz.prog.funcs[156]? = _; rw [Tryz.func156]; rfl
 t0 := Tryz.underlying0
 a0 := Tryz.isAgg0
 z0 := Tryz.sizeOf0
 v0 := Tryz.zeroValue0
 i0 := by kernel_rfl
 t3 := Tryz.underlying3
 a3 := Tryz.isAgg3
 z3 := Tryz.sizeOf3
 v3 := Tryz.zeroValue3
 i3 := by kernel_rfl
 t4 := Tryz.underlying4
 a4 := Tryz.isAgg4
 z4 := Tryz.sizeOf4
 v4 := Tryz.zeroValue4
 i4 := by kernel_rfl
 t5 := Tryz.underlying5
 a5 := Tryz.isAgg5
 z5 := Tryz.sizeOf5
 v5 := Tryz.zeroValue5
 i5 := by kernel_rfl
 t22 := Tryz.underlying73
 a22 := Tryz.isAgg73
 z22 := Tryz.sizeOf73
 v22 := Tryz.zeroValue73
 i22 := by kernel_rfl
 t25 := Tryz.underlying62
 a25 := Tryz.isAgg62
 z25 := Tryz.sizeOf62
 v25 := Tryz.zeroValue62
 i25 := by kernel_rfl
 t27 := Tryz.underlying22
 a27 := Tryz.isAgg22
 z27 := Tryz.sizeOf22
 v27 := Tryz.zeroValue22
 i27 := by kernel_rfl
 t53 := Tryz.underlying147
 a53 := Tryz.isAgg147
 z53 := Tryz.sizeOf147
 v53 := Tryz.zeroValue147
 i53 := by kernel_rfl
 t54 := Tryz.underlying148
 a54 := Tryz.isAgg148
 z54 := Tryz.sizeOf148
 g0 := by kernel_rfl
 g1 := by kernel_rfl
theorem chk_all0 : (okL.all fun f => chkFn Tryz.prog cfg0 f) = true := by kernel_rfl
theorem chk_all : (okL.all fun f => chkFn Tryz.prog cfg f) = true := by kernel_rfl
theorem ext0 : ∀ g s, cfg0.ext g = some s → ∀ args H r H', s args H = some (r, H') → CallOK Tryz.prog (cfg0.sig g) g args H r H' := by
 intro g s hs args H r H' h
 by_cases h0 : g = 152
 ·subst h0
  injection hs with hs; subst hs
  exact insert_ok insLays h
 by_cases h1 : g = 118
 ·subst h1
  injection hs with hs; subst hs
  exact growT_ok (n := 1) (by_ := 8) (z := .int .i64 0) growintint (by decide) (by kernel_rfl) rfl h
 by_cases h2 : g = 23
 ·subst h2
  injection hs with hs; subst hs
  exact joinT_ok joinLays joinExtra h
 by_cases h3 : g = 84
 ·subst h3
  injection hs with hs; subst hs
  exact splitT_ok lays146 (by kernel_rfl) (by kernel_rfl) h
 by_cases h4 : g = 55
 ·subst h4
  injection hs with hs; subst hs
  exact cutT_ok lays145 (by kernel_rfl) h
 by_cases h5 : g = 37
 ·subst h5
  injection hs with hs; subst hs
  exact indexByteT_ok lays137 h
 by_cases h6 : g = 22
 ·subst h6
  injection hs with hs; subst hs
  exact itoaT_ok laysM171 (by kernel_rfl) h
 by_cases h7 : g = 134
 ·subst h7
  injection hs with hs; subst hs
  exact tzT_ok tzLays (by kernel_rfl) h
 ·simp [cfg0, h0, h1, h2, h3, h4, h5, h6, h7] at hs
theorem extc0 : ∀ g, (cfg0.ext g).isSome = true → Callable Tryz.prog g := by
 intro g h
 by_cases h0 : g = 152
 ·subst h0; exact ⟨_, Tryz.func152, rfl, by decide⟩
 by_cases h1 : g = 118
 ·subst h1; exact ⟨_, Tryz.func118, rfl, by decide⟩
 by_cases h2 : g = 23
 ·subst h2; exact ⟨_, Tryz.func23, rfl, by decide⟩
 by_cases h3 : g = 84
 ·subst h3; exact ⟨_, Tryz.func84, rfl, by decide⟩
 by_cases h4 : g = 55
 ·subst h4; exact ⟨_, Tryz.func55, rfl, by decide⟩
 by_cases h5 : g = 37
 ·subst h5; exact ⟨_, Tryz.func37, rfl, by decide⟩
 by_cases h6 : g = 22
 ·subst h6; exact ⟨_, Tryz.func22, rfl, by decide⟩
 by_cases h7 : g = 134
 ·subst h7; exact ⟨_, Tryz.func134, rfl, by decide⟩
 ·simp [cfg0, h0, h1, h2, h3, h4, h5, h6, h7] at h
theorem world0 : World0 Tryz.prog cfg0 where
 ext := ext0
 extc := extc0
 chk := by
  intro g _ h
  exact List.all_eq_true.1 chk_all0 g (by simpa [cfg0] using h)
 dyn := by
  intro g h
  simp only [cfg, cfg0, beq_iff_eq] at h
  subst h
  rfl
 mixed := by kernel_rfl
theorem run_0 : ((lcallX Tryz.prog cfg0 400 7 [] []).map fun r => eqA 2 r.1 (.b true)) = some true := by kernel_rfl
theorem closed_cases {g : Nat} (h : closedL.contains g = true) : g = 7 := by
 simpa [closedL] using h
theorem world : World0 Tryz.prog cfg where
 ext := by
  intro g s hs args H r H' h
  by_cases hc : closedL.contains g = true
  ·have e : cfg.ext g = some fun args H => closedT true H args := by
    show (if closedL.contains g = true then _ else _) = _
    rw [if_pos hc]
   rw [e] at hs
   injection hs with hs; subst hs
   rcases closed_cases hc with rfl
   ·exact closedT_ok world0 rfl run_0 h
  ·have e : cfg.ext g = cfg0.ext g := by
    show (if closedL.contains g = true then _ else _) = _
    rw [if_neg hc]
   rw [e] at hs
   exact ext0 g s hs args H r H' h
 extc := by
  intro g h
  by_cases hc : closedL.contains g = true
  ·rcases closed_cases hc with rfl
   ·exact ⟨_, Tryz.func7, rfl, by decide⟩
  ·have e : cfg.ext g = cfg0.ext g := by
    show (if closedL.contains g = true then _ else _) = _
    rw [if_neg hc]
   rw [e] at h
   exact extc0 g h
 chk := by
  intro g _ h
  exact List.all_eq_true.1 chk_all g (by simpa [cfg, cfg0] using h)
 dyn := by
  intro g h
  simp only [cfg, cfg0, beq_iff_eq] at h
  subst h
  rfl
 mixed := by kernel_rfl
theorem sprlaw8_first_w {H : Heap} : WF Tryz.prog cfg 7 [] H (fun r H' => r = .b true ∧ H' = H) := WF.ext (g := fun args H => closedT true H args) rfl (r := .b true) (H' := H) rfl ⟨rfl, rfl⟩
theorem glob_max (W : World) (h : W.ShapedOpen Tryz.prog) : ∀ g, Tryz.prog.globalNamed "internal/bytealg.MaxLen" = some g → ∃ m, W.cell? ⟨g, 0, none⟩ = some (.int .i64 m) := by
 intro g hg
 obtain rfl : 0 = g := Option.some.inj ((show Tryz.prog.globalNamed "internal/bytealg.MaxLen" = some 0 by kernel_rfl).symm.trans hg)
 exact Go.Proofs.cell_of_shapedOpen_int (zero := #[.int .i64 0]) (t := 3) h (of_decide_eq_true (by kernel_rfl)) (by kernel_rfl) rfl (by kernel_rfl) (by kernel_rfl) Tryz.underlying3
theorem glob_ok (W : World) (h : W.ShapedOpen Tryz.prog) (hp : Lib.TabIs Tryz.prog W "internal/strconv.uint64pow10" .u64 Lib.pow10Tab) (hd : ∀ g, Tryz.prog.globalNamed "math/bits.deBruijn64tab" = some g → ∀ j, j < Lib.deBruijn64tab.length → W.cell? ⟨g, j, none⟩ = some (.int .u8 (Lib.deBruijn64tab.getD j 0))) : GlobOK Tryz.prog W :=
 ⟨glob_max W h, fun _ => hp, hd⟩
end Go.Proofs
