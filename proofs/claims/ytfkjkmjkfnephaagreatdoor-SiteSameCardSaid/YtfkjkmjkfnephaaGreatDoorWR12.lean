/- What the configuration needs: each function is looked at ahead; contracts of the library; the chapters' examples, run. -/
import Derived.Test.YtfkjkmjkfnephaaGreatDoorCfgR12
import Derived.Test.YtfkjkmjkfnephaaGreatDoorUrM
set_option linter.unusedVariables false
set_option linter.unusedSimpArgs false
namespace Go.Proofs
open Go.Lv Go.Shelf
def insLays_ren : Shelf.Ren := ⟨fun k => if k = 21 then 147 else if k = 27 then 152 else if k = 28 then 153 else if k = 35 then 154 else if k = 39 then 155 else k, fun k => if k = 3 then 3 else if k = 4 then 4 else if k = 22 then 47 else if k = 0 then 0 else k, fun x => x⟩
theorem insLays : Lays2.n21 Tryz.prog insLays_ren where
 mixed := by kernel_rfl
 f21 := by show Tryz.prog.funcs[147]? = _; rw [Tryz.func147]; rfl
 f27 := by show Tryz.prog.funcs[152]? = _; rw [Tryz.func152]; rfl
 f28 := by show Tryz.prog.funcs[153]? = _; rw [Tryz.func153]; rfl
 f35 := by show Tryz.prog.funcs[154]? = _; rw [Tryz.func154]; rfl
 f39 := by show Tryz.prog.funcs[155]? = _; rw [Tryz.func155]; rfl
 t0 := Tryz.underlying0
 a0 := Tryz.isAgg0
 z0 := Tryz.sizeOf0
 v0 := Tryz.zeroValue0
 t3 := Tryz.underlying3
 a3 := Tryz.isAgg3
 z3 := Tryz.sizeOf3
 v3 := Tryz.zeroValue3
 t4 := Tryz.underlying4
 a4 := Tryz.isAgg4
 z4 := Tryz.sizeOf4
 v4 := Tryz.zeroValue4
 t22 := Tryz.underlying47
 a22 := Tryz.isAgg47
 z22 := Tryz.sizeOf47
 v22 := Tryz.zeroValue47
 i3 := by kernel_rfl
def growintint_ren : Shelf.Ren := ⟨fun k => if k = 4 then 130 else k, fun k => if k = 0 then 0 else if k = 3 then 3 else if k = 4 then 4 else if k = 9 then 9 else if k = 20 then 20 else if k = 22 then 47 else if k = 25 then 3 else k, fun x => x⟩
theorem growintint : Lays8.n4 Tryz.prog growintint_ren where
 mixed := by kernel_rfl
 f4 := ⟨_, rfl, by show Tryz.prog.funcs[130]? = _; rw [Tryz.func130]; rfl⟩
 t0 := Tryz.underlying0
 a0 := Tryz.isAgg0
 z0 := Tryz.sizeOf0
 v0 := Tryz.zeroValue0
 t3 := Tryz.underlying3
 a3 := Tryz.isAgg3
 z3 := Tryz.sizeOf3
 v3 := Tryz.zeroValue3
 t4 := Tryz.underlying4
 a4 := Tryz.isAgg4
 z4 := Tryz.sizeOf4
 v4 := Tryz.zeroValue4
 t9 := Tryz.underlying9
 a9 := Tryz.isAgg9
 z9 := Tryz.sizeOf9
 v9 := Tryz.zeroValue9
 t20 := Tryz.underlying20
 a20 := Tryz.isAgg20
 z20 := Tryz.sizeOf20
 v20 := Tryz.zeroValue20
 t22 := Tryz.underlying47
 a22 := Tryz.isAgg47
 z22 := Tryz.sizeOf47
 v22 := Tryz.zeroValue47
def joinLays_ren : Shelf.Ren := ⟨fun k => if k = 156 then 96 else if k = 165 then 103 else if k = 166 then 105 else if k = 169 then 107 else if k = 240 then 123 else if k = 241 then 124 else if k = 276 then 140 else if k = 277 then 141 else k, fun k => if k = 31 then 22 else if k = 9 then 9 else if k = 3 then 3 else if k = 4 then 4 else if k = 0 then 0 else if k = 20 then 20 else if k = 72 then 110 else if k = 76 then 113 else if k = 70 then 108 else if k = 37 then 55 else if k = 75 then 112 else if k = 127 then 123 else if k = 164 then 132 else if k = 5 then 5 else if k = 80 then 64 else k, fun x => x⟩
theorem joinLays : Lays.n156 Tryz.prog joinLays_ren where
 mixed := by kernel_rfl
 f156 := by show Tryz.prog.funcs[96]? = _; rw [Tryz.func96]; rfl
 f165 := by show Tryz.prog.funcs[103]? = _; rw [Tryz.func103]; rfl
 f166 := by show Tryz.prog.funcs[105]? = _; rw [Tryz.func105]; rfl
 f169 := by show Tryz.prog.funcs[107]? = _; rw [Tryz.func107]; rfl
 f240 := by show Tryz.prog.funcs[123]? = _; rw [Tryz.func123]; rfl
 f241 := by show Tryz.prog.funcs[124]? = _; rw [Tryz.func124]; rfl
 f276 := by show Tryz.prog.funcs[140]? = _; rw [Tryz.func140]; rfl
 f277 := by show Tryz.prog.funcs[141]? = _; rw [Tryz.func141]; rfl
 t0 := Tryz.underlying0
 a0 := Tryz.isAgg0
 z0 := Tryz.sizeOf0
 v0 := Tryz.zeroValue0
 t3 := Tryz.underlying3
 a3 := Tryz.isAgg3
 z3 := Tryz.sizeOf3
 v3 := Tryz.zeroValue3
 t4 := Tryz.underlying4
 a4 := Tryz.isAgg4
 z4 := Tryz.sizeOf4
 v4 := Tryz.zeroValue4
 t9 := Tryz.underlying9
 a9 := Tryz.isAgg9
 z9 := Tryz.sizeOf9
 v9 := Tryz.zeroValue9
 t20 := Tryz.underlying20
 a20 := Tryz.isAgg20
 z20 := Tryz.sizeOf20
 v20 := Tryz.zeroValue20
 t31 := Tryz.underlying22
 a31 := Tryz.isAgg22
 z31 := Tryz.sizeOf22
 v31 := Tryz.zeroValue22
 t37 := Tryz.underlying55
 a37 := Tryz.isAgg55
 z37 := Tryz.sizeOf55
 v37 := Tryz.zeroValue55
 t70 := Tryz.underlying108
 a70 := Tryz.isAgg108
 z70 := Tryz.sizeOf108
 v70 := Tryz.zeroValue108
 t72 := Tryz.underlying110
 a72 := Tryz.isAgg110
 z72 := Tryz.sizeOf110
 v72 := Tryz.zeroValue110
 t75 := Tryz.underlying112
 a75 := Tryz.isAgg112
 z75 := Tryz.sizeOf112
 v75 := Tryz.zeroValue112
 t76 := Tryz.underlying113
 a76 := Tryz.isAgg113
 z76 := Tryz.sizeOf113
 v76 := Tryz.zeroValue113
 t127 := Tryz.underlying123
 a127 := Tryz.isAgg123
 z127 := Tryz.sizeOf123
 v127 := Tryz.zeroValue123
 t164 := Tryz.underlying132
 a164 := Tryz.isAgg132
 z164 := Tryz.sizeOf132
 v164 := Tryz.zeroValue132
theorem joinExtra : Builder.Extra Tryz.prog joinLays_ren where
 sizeBuilder := by kernel_rfl
 liesBuilder := by kernel_rfl
 t5 := Tryz.underlying5
 a5 := Tryz.isAgg5
 z5 := Tryz.sizeOf5
 v5 := Tryz.zeroValue5
 infoByte := by kernel_rfl
 cellsByte := by kernel_rfl
 sizeByte := by kernel_rfl
 neB5 := by decide
def lays146_ren : Shelf.Ren := ⟨fun | 146 => 109 | 221 => 127 | 268 => 145 | 138 => 102 | 143 => 104 | 195 => 121 | 197 => 106 | 218 => 122 | 219 => 125 | 260 => 126 | 217 => 101 | 225 => 142 | 224 => 143 | 267 => 144 | 266 => 120 | 314 => 150 | n => n, fun | 9 => 9 | 31 => 22 | 3 => 3 | 4 => 4 | 0 => 0 | 105 => 115 | 21 => 21 | 5 => 5 | 46 => 72 | 119 => 135 | 139 => 138 | 138 => 137 | 146 => 144 | 51 => 25 | n => n, fun | 1 => 0 | 3 => 1 | 4 => 2 | n => n⟩
theorem lays146 : Go.Proofs.Lays.n146 Tryz.prog lays146_ren := {
 mixed := by kernel_rfl
 f138 := Tryz.func102.trans (congrArg some (by kernel_rfl))
 f143 := Tryz.func104.trans (congrArg some (by kernel_rfl))
 f146 := Tryz.func109.trans (congrArg some (by kernel_rfl))
 f195 := Tryz.func121.trans (congrArg some (by kernel_rfl))
 f197 := Tryz.func106.trans (congrArg some (by kernel_rfl))
 f217 := Tryz.func101.trans (congrArg some (by kernel_rfl))
 f218 := Tryz.func122.trans (congrArg some (by kernel_rfl))
 f219 := Tryz.func125.trans (congrArg some (by kernel_rfl))
 f221 := Tryz.func127.trans (congrArg some (by kernel_rfl))
 f224 := Tryz.func143.trans (congrArg some (by kernel_rfl))
 f225 := Tryz.func142.trans (congrArg some (by kernel_rfl))
 f260 := Tryz.func126.trans (congrArg some (by kernel_rfl))
 f266 := Tryz.func120.trans (congrArg some (by kernel_rfl))
 f267 := Tryz.func144.trans (congrArg some (by kernel_rfl))
 f268 := Tryz.func145.trans (congrArg some (by kernel_rfl))
 f314 := Tryz.func150.trans (congrArg some (by kernel_rfl))
 t0 := Tryz.underlying0
 a0 := Tryz.isAgg0
 z0 := Tryz.sizeOf0
 v0 := Tryz.zeroValue0
 t3 := Tryz.underlying3
 a3 := Tryz.isAgg3
 z3 := Tryz.sizeOf3
 v3 := Tryz.zeroValue3
 t4 := Tryz.underlying4
 a4 := Tryz.isAgg4
 z4 := Tryz.sizeOf4
 v4 := Tryz.zeroValue4
 t5 := Tryz.underlying5
 a5 := Tryz.isAgg5
 z5 := Tryz.sizeOf5
 v5 := Tryz.zeroValue5
 t9 := Tryz.underlying9
 a9 := Tryz.isAgg9
 z9 := Tryz.sizeOf9
 v9 := Tryz.zeroValue9
 t21 := Tryz.underlying21
 a21 := Tryz.isAgg21
 z21 := Tryz.sizeOf21
 v21 := Tryz.zeroValue21
 t31 := Tryz.underlying22
 a31 := Tryz.isAgg22
 z31 := Tryz.sizeOf22
 v31 := Tryz.zeroValue22
 t46 := Tryz.underlying72
 a46 := Tryz.isAgg72
 z46 := Tryz.sizeOf72
 v46 := Tryz.zeroValue72
 t51 := Tryz.underlying25
 a51 := Tryz.isAgg25
 z51 := Tryz.sizeOf25
 v51 := Tryz.zeroValue25
 t105 := Tryz.underlying115
 a105 := Tryz.isAgg115
 z105 := Tryz.sizeOf115
 v105 := Tryz.zeroValue115
 t119 := Tryz.underlying135
 a119 := Tryz.isAgg135
 z119 := Tryz.sizeOf135
 t138 := Tryz.underlying137
 a138 := Tryz.isAgg137
 z138 := Tryz.sizeOf137
 v138 := Tryz.zeroValue137
 t139 := Tryz.underlying138
 a139 := Tryz.isAgg138
 z139 := Tryz.sizeOf138
 v139 := Tryz.zeroValue138
 t146 := Tryz.underlying144
 a146 := Tryz.isAgg144
 z146 := Tryz.sizeOf144
 v146 := Tryz.zeroValue144
 g1 := by kernel_rfl
 g3 := by kernel_rfl
 g4 := by kernel_rfl }
def lays145_ren : Shelf.Ren := ⟨fun | 145 => 91 | 220 => 108 | 219 => 125 | 217 => 101 | 225 => 142 | 224 => 143 | 267 => 144 | 266 => 120 | 314 => 150 | n => n, fun | 9 => 9 | 4 => 4 | 59 => 92 | 3 => 3 | 5 => 5 | 46 => 72 | 146 => 144 | 51 => 25 | n => n, fun | 1 => 0 | n => n⟩
theorem lays145 : Go.Proofs.Lays.n145 Tryz.prog lays145_ren := {
 mixed := by kernel_rfl
 f145 := Tryz.func91.trans (congrArg some (by kernel_rfl))
 f217 := Tryz.func101.trans (congrArg some (by kernel_rfl))
 f219 := Tryz.func125.trans (congrArg some (by kernel_rfl))
 f220 := Tryz.func108.trans (congrArg some (by kernel_rfl))
 f224 := Tryz.func143.trans (congrArg some (by kernel_rfl))
 f225 := Tryz.func142.trans (congrArg some (by kernel_rfl))
 f266 := Tryz.func120.trans (congrArg some (by kernel_rfl))
 f267 := Tryz.func144.trans (congrArg some (by kernel_rfl))
 f314 := Tryz.func150.trans (congrArg some (by kernel_rfl))
 t3 := Tryz.underlying3
 a3 := Tryz.isAgg3
 z3 := Tryz.sizeOf3
 v3 := Tryz.zeroValue3
 t4 := Tryz.underlying4
 a4 := Tryz.isAgg4
 z4 := Tryz.sizeOf4
 v4 := Tryz.zeroValue4
 t5 := Tryz.underlying5
 a5 := Tryz.isAgg5
 z5 := Tryz.sizeOf5
 v5 := Tryz.zeroValue5
 t9 := Tryz.underlying9
 a9 := Tryz.isAgg9
 z9 := Tryz.sizeOf9
 v9 := Tryz.zeroValue9
 t46 := Tryz.underlying72
 a46 := Tryz.isAgg72
 z46 := Tryz.sizeOf72
 v46 := Tryz.zeroValue72
 t51 := Tryz.underlying25
 a51 := Tryz.isAgg25
 z51 := Tryz.sizeOf25
 v51 := Tryz.zeroValue25
 t59 := Tryz.underlying92
 a59 := Tryz.isAgg92
 z59 := Tryz.sizeOf92
 v59 := Tryz.zeroValue92
 t146 := Tryz.underlying144
 a146 := Tryz.isAgg144
 z146 := Tryz.sizeOf144
 v146 := Tryz.zeroValue144
 g1 := by kernel_rfl }
def lays137_ren : Shelf.Ren := ⟨fun | 137 => 87 | 217 => 101 | 266 => 120 | n => n, fun | 9 => 9 | 5 => 5 | 3 => 3 | n => n, fun | n => n⟩
theorem lays137 : Go.Proofs.Lays.n137 Tryz.prog lays137_ren := {
 mixed := by kernel_rfl
 f137 := Tryz.func87.trans (congrArg some (by kernel_rfl))
 f217 := Tryz.func101.trans (congrArg some (by kernel_rfl))
 f266 := Tryz.func120.trans (congrArg some (by kernel_rfl))
 t3 := Tryz.underlying3
 a3 := Tryz.isAgg3
 z3 := Tryz.sizeOf3
 v3 := Tryz.zeroValue3
 t5 := Tryz.underlying5
 a5 := Tryz.isAgg5
 z5 := Tryz.sizeOf5
 v5 := Tryz.zeroValue5
 t9 := Tryz.underlying9
 a9 := Tryz.isAgg9
 z9 := Tryz.sizeOf9
 v9 := Tryz.zeroValue9 }
def lays155_ren : Shelf.Ren := ⟨fun | 155 => 79 | 154 => 90 | 138 => 102 | 165 => 103 | 143 => 104 | 166 => 105 | 197 => 106 | 169 => 107 | 195 => 121 | 218 => 122 | 240 => 123 | 241 => 124 | 219 => 125 | 260 => 126 | 276 => 140 | 277 => 141 | 217 => 101 | 225 => 142 | 224 => 143 | 267 => 144 | 266 => 120 | 314 => 150 | n => n, fun | 9 => 9 | 3 => 3 | 4 => 4 | 72 => 110 | 0 => 0 | 76 => 113 | 105 => 115 | 21 => 21 | 5 => 5 | 70 => 108 | 20 => 20 | 37 => 55 | 75 => 112 | 127 => 123 | 164 => 132 | 46 => 72 | 119 => 135 | 139 => 138 | 138 => 137 | 146 => 144 | 51 => 25 | 80 => 64 | n => n, fun | 1 => 0 | 3 => 1 | 4 => 2 | n => n⟩
theorem lays155 : Go.Proofs.Lays.n155 Tryz.prog lays155_ren := {
 mixed := by kernel_rfl
 f138 := Tryz.func102.trans (congrArg some (by kernel_rfl))
 f143 := Tryz.func104.trans (congrArg some (by kernel_rfl))
 f154 := Tryz.func90.trans (congrArg some (by kernel_rfl))
 f155 := Tryz.func79.trans (congrArg some (by kernel_rfl))
 f165 := Tryz.func103.trans (congrArg some (by kernel_rfl))
 f166 := Tryz.func105.trans (congrArg some (by kernel_rfl))
 f169 := Tryz.func107.trans (congrArg some (by kernel_rfl))
 f195 := Tryz.func121.trans (congrArg some (by kernel_rfl))
 f197 := Tryz.func106.trans (congrArg some (by kernel_rfl))
 f217 := Tryz.func101.trans (congrArg some (by kernel_rfl))
 f218 := Tryz.func122.trans (congrArg some (by kernel_rfl))
 f219 := Tryz.func125.trans (congrArg some (by kernel_rfl))
 f224 := Tryz.func143.trans (congrArg some (by kernel_rfl))
 f225 := Tryz.func142.trans (congrArg some (by kernel_rfl))
 f240 := Tryz.func123.trans (congrArg some (by kernel_rfl))
 f241 := Tryz.func124.trans (congrArg some (by kernel_rfl))
 f260 := Tryz.func126.trans (congrArg some (by kernel_rfl))
 f266 := Tryz.func120.trans (congrArg some (by kernel_rfl))
 f267 := Tryz.func144.trans (congrArg some (by kernel_rfl))
 f276 := Tryz.func140.trans (congrArg some (by kernel_rfl))
 f277 := Tryz.func141.trans (congrArg some (by kernel_rfl))
 f314 := Tryz.func150.trans (congrArg some (by kernel_rfl))
 t0 := Tryz.underlying0
 a0 := Tryz.isAgg0
 z0 := Tryz.sizeOf0
 v0 := Tryz.zeroValue0
 t3 := Tryz.underlying3
 a3 := Tryz.isAgg3
 z3 := Tryz.sizeOf3
 v3 := Tryz.zeroValue3
 t4 := Tryz.underlying4
 a4 := Tryz.isAgg4
 z4 := Tryz.sizeOf4
 v4 := Tryz.zeroValue4
 t5 := Tryz.underlying5
 a5 := Tryz.isAgg5
 z5 := Tryz.sizeOf5
 v5 := Tryz.zeroValue5
 t9 := Tryz.underlying9
 a9 := Tryz.isAgg9
 z9 := Tryz.sizeOf9
 v9 := Tryz.zeroValue9
 t20 := Tryz.underlying20
 a20 := Tryz.isAgg20
 z20 := Tryz.sizeOf20
 v20 := Tryz.zeroValue20
 t21 := Tryz.underlying21
 a21 := Tryz.isAgg21
 z21 := Tryz.sizeOf21
 v21 := Tryz.zeroValue21
 t37 := Tryz.underlying55
 a37 := Tryz.isAgg55
 z37 := Tryz.sizeOf55
 v37 := Tryz.zeroValue55
 t46 := Tryz.underlying72
 a46 := Tryz.isAgg72
 z46 := Tryz.sizeOf72
 v46 := Tryz.zeroValue72
 t51 := Tryz.underlying25
 a51 := Tryz.isAgg25
 z51 := Tryz.sizeOf25
 v51 := Tryz.zeroValue25
 t70 := Tryz.underlying108
 a70 := Tryz.isAgg108
 z70 := Tryz.sizeOf108
 v70 := Tryz.zeroValue108
 t72 := Tryz.underlying110
 a72 := Tryz.isAgg110
 z72 := Tryz.sizeOf110
 v72 := Tryz.zeroValue110
 t75 := Tryz.underlying112
 a75 := Tryz.isAgg112
 z75 := Tryz.sizeOf112
 v75 := Tryz.zeroValue112
 t76 := Tryz.underlying113
 a76 := Tryz.isAgg113
 z76 := Tryz.sizeOf113
 v76 := Tryz.zeroValue113
 t105 := Tryz.underlying115
 a105 := Tryz.isAgg115
 z105 := Tryz.sizeOf115
 v105 := Tryz.zeroValue115
 t119 := Tryz.underlying135
 a119 := Tryz.isAgg135
 z119 := Tryz.sizeOf135
 t127 := Tryz.underlying123
 a127 := Tryz.isAgg123
 z127 := Tryz.sizeOf123
 v127 := Tryz.zeroValue123
 t138 := Tryz.underlying137
 a138 := Tryz.isAgg137
 z138 := Tryz.sizeOf137
 v138 := Tryz.zeroValue137
 t139 := Tryz.underlying138
 a139 := Tryz.isAgg138
 z139 := Tryz.sizeOf138
 v139 := Tryz.zeroValue138
 t146 := Tryz.underlying144
 a146 := Tryz.isAgg144
 z146 := Tryz.sizeOf144
 v146 := Tryz.zeroValue144
 t164 := Tryz.underlying132
 a164 := Tryz.isAgg132
 z164 := Tryz.sizeOf132
 v164 := Tryz.zeroValue132
 g1 := by kernel_rfl
 g3 := by kernel_rfl
 g4 := by kernel_rfl }
theorem extra_lays155 : Builder.Extra Tryz.prog lays155_ren where
 sizeBuilder := by kernel_rfl
 liesBuilder := by kernel_rfl
 t5 := Tryz.underlying5
 a5 := Tryz.isAgg5
 z5 := Tryz.sizeOf5
 v5 := Tryz.zeroValue5
 infoByte := by kernel_rfl
 cellsByte := by kernel_rfl
 sizeByte := by kernel_rfl
 neB5 := by decide
def dfLays_ren : Shelf.Ren := ⟨fun k => if k = 10 then 24 else if k = 6 then 43 else k, fun k => if k = 0 then 0 else if k = 3 then 3 else if k = 4 then 4 else if k = 22 then 47 else if k = 23 then 3 else if k = 25 then 57 else k, fun x => x⟩
theorem dfLays : SlLaysH.n10 Tryz.prog dfLays_ren where
 mixed := by kernel_rfl
 f6 := ⟨_, rfl, by show Tryz.prog.funcs[43]? = _; rw [Tryz.func43]; rfl⟩
 f10 := ⟨_, rfl, by show Tryz.prog.funcs[24]? = _; rw [Tryz.func24]; rfl⟩
 t0 := Tryz.underlying0
 a0 := Tryz.isAgg0
 z0 := Tryz.sizeOf0
 v0 := Tryz.zeroValue0
 t3 := Tryz.underlying3
 a3 := Tryz.isAgg3
 z3 := Tryz.sizeOf3
 v3 := Tryz.zeroValue3
 t4 := Tryz.underlying4
 a4 := Tryz.isAgg4
 z4 := Tryz.sizeOf4
 v4 := Tryz.zeroValue4
 t22 := Tryz.underlying47
 a22 := Tryz.isAgg47
 z22 := Tryz.sizeOf47
 v22 := Tryz.zeroValue47
 a23 := Tryz.isAgg3
 z23 := Tryz.sizeOf3
 t25 := Tryz.underlying57
 a25 := Tryz.isAgg57
 z25 := Tryz.sizeOf57
 v25 := Tryz.zeroValue57
theorem del_gives (x : Int) (W : World) : FnGives Tryz.prog 25 #[] #[.int .i64 x] (.bool (tabs x)) W := by
 show Calls Tryz.prog 25 #[.int .i64 x] W _
 go_enter Tryz.func25, Tryz.ntmps25
 go_wp2
 all_goals (go_ret; exact ⟨by simp_all [tabs], 0, rfl⟩)
theorem del_row : DelRow Tryz.prog 24 25 tabs := by
 intro w blk off cap d hblk hH hsz hcap
 have eg : ∀ args w, (callFunc 25 args).run Tryz.prog w = .ok (.enter 25 args) w := enters_of Tryz.func25 (by kernel_rfl) rfl
 exact AnyE.slices_DeleteFunc dfLays (Value.int .i64) (fun _ => rfl) tabs _ #[] eg 0 Tryz.zeroValue3 blk off cap d w (fun W x hb => del_gives x W) (fun n os dk x _ => del_gives x _) hH hsz hcap
theorem del_none : DelNone Tryz.prog 24 25 := by
 intro w a cap
 have hI : ∀ (fv : Value) (w : World), Calls Tryz.prog 43 #[.slice a 0 cap, fv] w fun e w' => e = .returned (.int .i64 (-1)) ∧ w' = w := fun fv w => AnyE.slices_IndexFunc_empty { dfLays with } a cap fv w
 go_enter Tryz.func24, Tryz.ntmps24
 go_wp2_with (go_at_call 43; refine (hI _ _).mono ?_; rintro e w' ⟨rfl, rfl⟩)
 go_ret
 exact ⟨rfl, rfl⟩
def csLays_ren : Shelf.Ren := ⟨fun k => if k = 41 then 57 else k, fun k => if k = 4 then 4 else if k = 22 then 22 else if k = 23 then 9 else k, fun x => x⟩
theorem csLays : SlLaysE0.n41 Tryz.prog csLays_ren where
 mixed := by kernel_rfl
 f41 := ⟨_, rfl, by show Tryz.prog.funcs[57]? = _; rw [Tryz.func57]; rfl⟩
 t4 := Tryz.underlying4
 a4 := Tryz.isAgg4
 z4 := Tryz.sizeOf4
 v4 := Tryz.zeroValue4
 t22 := Tryz.underlying22
 a22 := Tryz.isAgg22
 z22 := Tryz.sizeOf22
 v22 := Tryz.zeroValue22
theorem chk_all0 : (okL.all fun f => chkFn Tryz.prog cfg0 f) = true := by kernel_rfl
theorem chk_all : (okL.all fun f => chkFn Tryz.prog cfg f) = true := by kernel_rfl
theorem ext0 : ∀ g s, cfg0.ext g = some s → ∀ args H r H', s args H = some (r, H') → CallOK Tryz.prog (cfg0.sig g) g args H r H' := by
 intro g s hs args H r H' h
 by_cases h0 : g = 147
 ·subst h0
  injection hs with hs; subst hs
  exact insert_ok insLays h
 by_cases h1 : g = 130
 ·subst h1
  injection hs with hs; subst hs
  exact growT_ok (n := 1) (by_ := 8) (z := .int .i64 0) growintint (by decide) (by kernel_rfl) rfl h
 by_cases h2 : g = 96
 ·subst h2
  injection hs with hs; subst hs
  exact joinT_ok joinLays joinExtra h
 by_cases h3 : g = 109
 ·subst h3
  injection hs with hs; subst hs
  exact splitT_ok lays146 (by kernel_rfl) (by kernel_rfl) h
 by_cases h4 : g = 91
 ·subst h4
  injection hs with hs; subst hs
  exact cutT_ok lays145 (by kernel_rfl) h
 by_cases h5 : g = 87
 ·subst h5
  injection hs with hs; subst hs
  exact indexByteT_ok lays137 h
 by_cases h6 : g = 79
 ·subst h6
  injection hs with hs; subst hs
  exact replaceT_ok lays155 extra_lays155 (by kernel_rfl) h
 by_cases h7 : g = 24
 ·subst h7
  injection hs with hs; subst hs
  exact deleteT_ok del_row del_none h
 by_cases h8 : g = 57
 ·subst h8
  injection hs with hs; subst hs
  exact cloneT_ok (n := 1) (by_ := 16) (z := .string ByteArray.empty) csLays (by kernel_rfl) rfl h
 ·simp [cfg0, h0, h1, h2, h3, h4, h5, h6, h7, h8] at hs
theorem extc0 : ∀ g, (cfg0.ext g).isSome = true → Callable Tryz.prog g := by
 intro g h
 by_cases h0 : g = 147
 ·subst h0; exact ⟨_, Tryz.func147, rfl, by decide⟩
 by_cases h1 : g = 130
 ·subst h1; exact ⟨_, Tryz.func130, rfl, by decide⟩
 by_cases h2 : g = 96
 ·subst h2; exact ⟨_, Tryz.func96, rfl, by decide⟩
 by_cases h3 : g = 109
 ·subst h3; exact ⟨_, Tryz.func109, rfl, by decide⟩
 by_cases h4 : g = 91
 ·subst h4; exact ⟨_, Tryz.func91, rfl, by decide⟩
 by_cases h5 : g = 87
 ·subst h5; exact ⟨_, Tryz.func87, rfl, by decide⟩
 by_cases h6 : g = 79
 ·subst h6; exact ⟨_, Tryz.func79, rfl, by decide⟩
 by_cases h7 : g = 24
 ·subst h7; exact ⟨_, Tryz.func24, rfl, by decide⟩
 by_cases h8 : g = 57
 ·subst h8; exact ⟨_, Tryz.func57, rfl, by decide⟩
 ·simp [cfg0, h0, h1, h2, h3, h4, h5, h6, h7, h8] at h
theorem alt0 : ∀ g s, cfg0.alt g = some s → ∀ args H r H', s args H = some (r, H') → CallOK Tryz.prog {} g args H r H' ∧ Callable Tryz.prog g := by
 intro g s hs args H r H' h
 by_cases k0 : g = 23
 ·subst k0
  injection hs with hs; subst hs
  exact ⟨lossyM_ok h, ⟨_, Tryz.func23, rfl, by decide⟩⟩
 by_cases k1 : g = 57
 ·subst k1
  injection hs with hs; subst hs
  exact ⟨cloneM_ok (z := .string ByteArray.empty) csLays (by kernel_rfl) rfl h, ⟨_, Tryz.func57, rfl, by decide⟩⟩
 ·simp [cfg0, k0, k1] at hs
theorem world0 : World0 Tryz.prog cfg0 where
 ext := ext0
 extc := extc0
 alt := alt0
 chk := by
  intro g _ h
  exact List.all_eq_true.1 chk_all0 g (by simpa [cfg0] using h)
 dyn := by
  intro g h
  simp only [cfg, cfg0, beq_iff_eq] at h
  subst h
  rfl
 mixed := by kernel_rfl
theorem run_0 : ((lcallX Tryz.prog cfg0 4000 5 [] []).map fun r => eqA 2 r.1 (.b true)) = some true := by kernel_rfl
theorem closed_cases {g : Nat} (h : closedL.contains g = true) : g = 5 := by
 simpa [closedL] using h
theorem world : World0 Tryz.prog cfg where
 ext := by
  intro g s hs args H r H' h
  by_cases hc : closedL.contains g = true
  ·have e : cfg.ext g = some fun args H => closedT true H args := by
    show (if closedL.contains g = true then _ else _) = _
    rw [if_pos hc]
   rw [e] at hs
   injection hs with hs; subst hs
   rcases closed_cases hc with rfl
   ·exact closedT_ok world0 rfl run_0 h
  ·have e : cfg.ext g = cfg0.ext g := by
    show (if closedL.contains g = true then _ else _) = _
    rw [if_neg hc]
   rw [e] at hs
   exact ext0 g s hs args H r H' h
 extc := by
  intro g h
  by_cases hc : closedL.contains g = true
  ·rcases closed_cases hc with rfl
   ·exact ⟨_, Tryz.func5, rfl, by decide⟩
  ·have e : cfg.ext g = cfg0.ext g := by
    show (if closedL.contains g = true then _ else _) = _
    rw [if_neg hc]
   rw [e] at h
   exact extc0 g h
 alt := alt0
 chk := by
  intro g _ h
  exact List.all_eq_true.1 chk_all g (by simpa [cfg, cfg0] using h)
 dyn := by
  intro g h
  simp only [cfg, cfg0, beq_iff_eq] at h
  subst h
  rfl
 mixed := by kernel_rfl
theorem sprlaw11_first_w {H : Heap} : WF Tryz.prog cfg 5 [] H (fun r H' => r = .b true ∧ H' = H) := WF.ext (g := fun args H => closedT true H args) rfl (r := .b true) (H' := H) rfl ⟨rfl, rfl⟩
theorem glob_max (W : World) (h : W.ShapedOpen Tryz.prog) : ∀ g, Tryz.prog.globalNamed "internal/bytealg.MaxLen" = some g → ∃ m, W.cell? ⟨g, 0, none⟩ = some (.int .i64 m) := by
 intro g hg
 obtain rfl : 0 = g := Option.some.inj ((show Tryz.prog.globalNamed "internal/bytealg.MaxLen" = some 0 by kernel_rfl).symm.trans hg)
 exact Go.Proofs.cell_of_shapedOpen_int (zero := #[.int .i64 0]) (t := 3) h (of_decide_eq_true (by kernel_rfl)) (by kernel_rfl) rfl (by kernel_rfl) (by kernel_rfl) Tryz.underlying3
theorem glob_ok (W : World) (h : W.ShapedOpen Tryz.prog)  : GlobOK Tryz.prog W :=
 ⟨glob_max W h, (fun hp => by rw [show Tryz.prog.globalNamed "internal/strconv.uint64pow10" = none by kernel_rfl] at hp; cases hp), (fun g hg => by rw [show Tryz.prog.globalNamed "math/bits.deBruijn64tab" = none by kernel_rfl] at hg; cases hg)⟩
end Go.Proofs
