/- What the configuration needs: each function is looked at ahead; contracts of the library; the chapters' examples, run. -/
import Derived.Test.YtpbemfiedmfpiaaGreatDoorCfgR11
import Derived.Test.YtpbemfiedmfpiaaGreatDoorUrM
set_option linter.unusedVariables false
set_option linter.unusedSimpArgs false
namespace Go.Proofs
open Go.Lv Go.Shelf
def insLays_ren : Shelf.Ren := ⟨fun k => if k = 21 then 253 else if k = 27 then 267 else if k = 28 then 268 else if k = 35 then 276 else if k = 39 then 277 else k, fun k => if k = 3 then 3 else if k = 4 then 4 else if k = 22 then 61 else if k = 0 then 0 else k, fun x => x⟩
theorem insLays : Lays2.n21 Tryz.prog insLays_ren where
 mixed := by kernel_rfl
 f21 := by show Tryz.prog.funcs[253]? = _; rw [Tryz.func253]; rfl
 f27 := by show Tryz.prog.funcs[267]? = _; rw [Tryz.func267]; rfl
 f28 := by show Tryz.prog.funcs[268]? = _; rw [Tryz.func268]; rfl
 f35 := by show Tryz.prog.funcs[276]? = _; rw [Tryz.func276]; rfl
 f39 := by show Tryz.prog.funcs[277]? = _; rw [Tryz.func277]; rfl
 t0 := Tryz.underlying0
 a0 := Tryz.isAgg0
 z0 := Tryz.sizeOf0
 v0 := Tryz.zeroValue0
 t3 := Tryz.underlying3
 a3 := Tryz.isAgg3
 z3 := Tryz.sizeOf3
 v3 := Tryz.zeroValue3
 t4 := Tryz.underlying4
 a4 := Tryz.isAgg4
 z4 := Tryz.sizeOf4
 v4 := Tryz.zeroValue4
 t22 := Tryz.underlying61
 a22 := Tryz.isAgg61
 z22 := Tryz.sizeOf61
 v22 := Tryz.zeroValue61
 i3 := by kernel_rfl
def growintint_ren : Shelf.Ren := ⟨fun k => if k = 4 then 225 else k, fun k => if k = 0 then 0 else if k = 3 then 3 else if k = 4 then 4 else if k = 9 then 9 else if k = 20 then 20 else if k = 22 then 61 else if k = 25 then 3 else k, fun x => x⟩
theorem growintint : Lays8.n4 Tryz.prog growintint_ren where
 mixed := by kernel_rfl
 f4 := ⟨_, rfl, by show Tryz.prog.funcs[225]? = _; rw [Tryz.func225]; rfl⟩
 t0 := Tryz.underlying0
 a0 := Tryz.isAgg0
 z0 := Tryz.sizeOf0
 v0 := Tryz.zeroValue0
 t3 := Tryz.underlying3
 a3 := Tryz.isAgg3
 z3 := Tryz.sizeOf3
 v3 := Tryz.zeroValue3
 t4 := Tryz.underlying4
 a4 := Tryz.isAgg4
 z4 := Tryz.sizeOf4
 v4 := Tryz.zeroValue4
 t9 := Tryz.underlying9
 a9 := Tryz.isAgg9
 z9 := Tryz.sizeOf9
 v9 := Tryz.zeroValue9
 t20 := Tryz.underlying20
 a20 := Tryz.isAgg20
 z20 := Tryz.sizeOf20
 v20 := Tryz.zeroValue20
 t22 := Tryz.underlying61
 a22 := Tryz.isAgg61
 z22 := Tryz.sizeOf61
 v22 := Tryz.zeroValue61
def joinLays_ren : Shelf.Ren := ⟨fun k => if k = 156 then 67 else if k = 165 then 105 else if k = 166 then 106 else if k = 169 then 107 else if k = 240 then 161 else if k = 241 then 162 else if k = 276 then 187 else if k = 277 then 188 else k, fun k => if k = 31 then 28 else if k = 9 then 9 else if k = 3 then 3 else if k = 4 then 4 else if k = 0 then 0 else if k = 20 then 20 else if k = 72 then 94 else if k = 76 then 97 else if k = 70 then 92 else if k = 37 then 66 else if k = 75 then 96 else if k = 127 then 123 else if k = 164 then 147 else if k = 5 then 5 else if k = 80 then 99 else k, fun x => x⟩
theorem joinLays : Lays.n156 Tryz.prog joinLays_ren where
 mixed := by kernel_rfl
 f156 := by show Tryz.prog.funcs[67]? = _; rw [Tryz.func67]; rfl
 f165 := by show Tryz.prog.funcs[105]? = _; rw [Tryz.func105]; rfl
 f166 := by show Tryz.prog.funcs[106]? = _; rw [Tryz.func106]; rfl
 f169 := by show Tryz.prog.funcs[107]? = _; rw [Tryz.func107]; rfl
 f240 := by show Tryz.prog.funcs[161]? = _; rw [Tryz.func161]; rfl
 f241 := by show Tryz.prog.funcs[162]? = _; rw [Tryz.func162]; rfl
 f276 := by show Tryz.prog.funcs[187]? = _; rw [Tryz.func187]; rfl
 f277 := by show Tryz.prog.funcs[188]? = _; rw [Tryz.func188]; rfl
 t0 := Tryz.underlying0
 a0 := Tryz.isAgg0
 z0 := Tryz.sizeOf0
 v0 := Tryz.zeroValue0
 t3 := Tryz.underlying3
 a3 := Tryz.isAgg3
 z3 := Tryz.sizeOf3
 v3 := Tryz.zeroValue3
 t4 := Tryz.underlying4
 a4 := Tryz.isAgg4
 z4 := Tryz.sizeOf4
 v4 := Tryz.zeroValue4
 t9 := Tryz.underlying9
 a9 := Tryz.isAgg9
 z9 := Tryz.sizeOf9
 v9 := Tryz.zeroValue9
 t20 := Tryz.underlying20
 a20 := Tryz.isAgg20
 z20 := Tryz.sizeOf20
 v20 := Tryz.zeroValue20
 t31 := Tryz.underlying28
 a31 := Tryz.isAgg28
 z31 := Tryz.sizeOf28
 v31 := Tryz.zeroValue28
 t37 := Tryz.underlying66
 a37 := Tryz.isAgg66
 z37 := Tryz.sizeOf66
 v37 := Tryz.zeroValue66
 t70 := Tryz.underlying92
 a70 := Tryz.isAgg92
 z70 := Tryz.sizeOf92
 v70 := Tryz.zeroValue92
 t72 := Tryz.underlying94
 a72 := Tryz.isAgg94
 z72 := Tryz.sizeOf94
 v72 := Tryz.zeroValue94
 t75 := Tryz.underlying96
 a75 := Tryz.isAgg96
 z75 := Tryz.sizeOf96
 v75 := Tryz.zeroValue96
 t76 := Tryz.underlying97
 a76 := Tryz.isAgg97
 z76 := Tryz.sizeOf97
 v76 := Tryz.zeroValue97
 t127 := Tryz.underlying123
 a127 := Tryz.isAgg123
 z127 := Tryz.sizeOf123
 v127 := Tryz.zeroValue123
 t164 := Tryz.underlying147
 a164 := Tryz.isAgg147
 z164 := Tryz.sizeOf147
 v164 := Tryz.zeroValue147
theorem joinExtra : Builder.Extra Tryz.prog joinLays_ren where
 sizeBuilder := by kernel_rfl
 liesBuilder := by kernel_rfl
 t5 := Tryz.underlying5
 a5 := Tryz.isAgg5
 z5 := Tryz.sizeOf5
 v5 := Tryz.zeroValue5
 infoByte := by kernel_rfl
 cellsByte := by kernel_rfl
 sizeByte := by kernel_rfl
 neB5 := by decide
def lays146_ren : Shelf.Ren := ⟨fun | 146 => 190 | 221 => 222 | 268 => 249 | 138 => 250 | 143 => 251 | 195 => 264 | 197 => 256 | 218 => 265 | 219 => 221 | 260 => 269 | 217 => 173 | 225 => 246 | 224 => 247 | 267 => 248 | 266 => 201 | 314 => 263 | n => n, fun | 9 => 9 | 31 => 28 | 3 => 3 | 4 => 4 | 0 => 0 | 105 => 182 | 21 => 21 | 5 => 5 | 46 => 110 | 119 => 188 | 139 => 191 | 138 => 190 | 146 => 184 | 51 => 23 | n => n, fun | 1 => 0 | 3 => 4 | 4 => 5 | n => n⟩
theorem lays146 : Go.Proofs.Lays.n146 Tryz.prog lays146_ren := {
 mixed := by kernel_rfl
 f138 := Tryz.func250.trans (congrArg some (by kernel_rfl))
 f143 := Tryz.func251.trans (congrArg some (by kernel_rfl))
 f146 := Tryz.func190.trans (congrArg some (by kernel_rfl))
 f195 := Tryz.func264.trans (congrArg some (by kernel_rfl))
 f197 := Tryz.func256.trans (congrArg some (by kernel_rfl))
 f217 := Tryz.func173.trans (congrArg some (by kernel_rfl))
 f218 := Tryz.func265.trans (congrArg some (by kernel_rfl))
 f219 := Tryz.func221.trans (congrArg some (by kernel_rfl))
 f221 := Tryz.func222.trans (congrArg some (by kernel_rfl))
 f224 := Tryz.func247.trans (congrArg some (by kernel_rfl))
 f225 := Tryz.func246.trans (congrArg some (by kernel_rfl))
 f260 := Tryz.func269.trans (congrArg some (by kernel_rfl))
 f266 := Tryz.func201.trans (congrArg some (by kernel_rfl))
 f267 := Tryz.func248.trans (congrArg some (by kernel_rfl))
 f268 := Tryz.func249.trans (congrArg some (by kernel_rfl))
 f314 := Tryz.func263.trans (congrArg some (by kernel_rfl))
 t0 := Tryz.underlying0
 a0 := Tryz.isAgg0
 z0 := Tryz.sizeOf0
 v0 := Tryz.zeroValue0
 t3 := Tryz.underlying3
 a3 := Tryz.isAgg3
 z3 := Tryz.sizeOf3
 v3 := Tryz.zeroValue3
 t4 := Tryz.underlying4
 a4 := Tryz.isAgg4
 z4 := Tryz.sizeOf4
 v4 := Tryz.zeroValue4
 t5 := Tryz.underlying5
 a5 := Tryz.isAgg5
 z5 := Tryz.sizeOf5
 v5 := Tryz.zeroValue5
 t9 := Tryz.underlying9
 a9 := Tryz.isAgg9
 z9 := Tryz.sizeOf9
 v9 := Tryz.zeroValue9
 t21 := Tryz.underlying21
 a21 := Tryz.isAgg21
 z21 := Tryz.sizeOf21
 v21 := Tryz.zeroValue21
 t31 := Tryz.underlying28
 a31 := Tryz.isAgg28
 z31 := Tryz.sizeOf28
 v31 := Tryz.zeroValue28
 t46 := Tryz.underlying110
 a46 := Tryz.isAgg110
 z46 := Tryz.sizeOf110
 v46 := Tryz.zeroValue110
 t51 := Tryz.underlying23
 a51 := Tryz.isAgg23
 z51 := Tryz.sizeOf23
 v51 := Tryz.zeroValue23
 t105 := Tryz.underlying182
 a105 := Tryz.isAgg182
 z105 := Tryz.sizeOf182
 v105 := Tryz.zeroValue182
 t119 := Tryz.underlying188
 a119 := Tryz.isAgg188
 z119 := Tryz.sizeOf188
 t138 := Tryz.underlying190
 a138 := Tryz.isAgg190
 z138 := Tryz.sizeOf190
 v138 := Tryz.zeroValue190
 t139 := Tryz.underlying191
 a139 := Tryz.isAgg191
 z139 := Tryz.sizeOf191
 v139 := Tryz.zeroValue191
 t146 := Tryz.underlying184
 a146 := Tryz.isAgg184
 z146 := Tryz.sizeOf184
 v146 := Tryz.zeroValue184
 g1 := by kernel_rfl
 g3 := by kernel_rfl
 g4 := by kernel_rfl }
def lays145_ren : Shelf.Ren := ⟨fun | 145 => 164 | 220 => 189 | 219 => 221 | 217 => 173 | 225 => 246 | 224 => 247 | 267 => 248 | 266 => 201 | 314 => 263 | n => n, fun | 9 => 9 | 4 => 4 | 59 => 124 | 3 => 3 | 5 => 5 | 46 => 110 | 146 => 184 | 51 => 23 | n => n, fun | 1 => 0 | n => n⟩
theorem lays145 : Go.Proofs.Lays.n145 Tryz.prog lays145_ren := {
 mixed := by kernel_rfl
 f145 := Tryz.func164.trans (congrArg some (by kernel_rfl))
 f217 := Tryz.func173.trans (congrArg some (by kernel_rfl))
 f219 := Tryz.func221.trans (congrArg some (by kernel_rfl))
 f220 := Tryz.func189.trans (congrArg some (by kernel_rfl))
 f224 := Tryz.func247.trans (congrArg some (by kernel_rfl))
 f225 := Tryz.func246.trans (congrArg some (by kernel_rfl))
 f266 := Tryz.func201.trans (congrArg some (by kernel_rfl))
 f267 := Tryz.func248.trans (congrArg some (by kernel_rfl))
 f314 := Tryz.func263.trans (congrArg some (by kernel_rfl))
 t3 := Tryz.underlying3
 a3 := Tryz.isAgg3
 z3 := Tryz.sizeOf3
 v3 := Tryz.zeroValue3
 t4 := Tryz.underlying4
 a4 := Tryz.isAgg4
 z4 := Tryz.sizeOf4
 v4 := Tryz.zeroValue4
 t5 := Tryz.underlying5
 a5 := Tryz.isAgg5
 z5 := Tryz.sizeOf5
 v5 := Tryz.zeroValue5
 t9 := Tryz.underlying9
 a9 := Tryz.isAgg9
 z9 := Tryz.sizeOf9
 v9 := Tryz.zeroValue9
 t46 := Tryz.underlying110
 a46 := Tryz.isAgg110
 z46 := Tryz.sizeOf110
 v46 := Tryz.zeroValue110
 t51 := Tryz.underlying23
 a51 := Tryz.isAgg23
 z51 := Tryz.sizeOf23
 v51 := Tryz.zeroValue23
 t59 := Tryz.underlying124
 a59 := Tryz.isAgg124
 z59 := Tryz.sizeOf124
 v59 := Tryz.zeroValue124
 t146 := Tryz.underlying184
 a146 := Tryz.isAgg184
 z146 := Tryz.sizeOf184
 v146 := Tryz.zeroValue184
 g1 := by kernel_rfl }
def lays137_ren : Shelf.Ren := ⟨fun | 137 => 116 | 217 => 173 | 266 => 201 | n => n, fun | 9 => 9 | 5 => 5 | 3 => 3 | n => n, fun | n => n⟩
theorem lays137 : Go.Proofs.Lays.n137 Tryz.prog lays137_ren := {
 mixed := by kernel_rfl
 f137 := Tryz.func116.trans (congrArg some (by kernel_rfl))
 f217 := Tryz.func173.trans (congrArg some (by kernel_rfl))
 f266 := Tryz.func201.trans (congrArg some (by kernel_rfl))
 t3 := Tryz.underlying3
 a3 := Tryz.isAgg3
 z3 := Tryz.sizeOf3
 v3 := Tryz.zeroValue3
 t5 := Tryz.underlying5
 a5 := Tryz.isAgg5
 z5 := Tryz.sizeOf5
 v5 := Tryz.zeroValue5
 t9 := Tryz.underlying9
 a9 := Tryz.isAgg9
 z9 := Tryz.sizeOf9
 v9 := Tryz.zeroValue9 }
def lays155_ren : Shelf.Ren := ⟨fun | 155 => 209 | 154 => 237 | 138 => 250 | 165 => 105 | 143 => 251 | 166 => 106 | 197 => 256 | 169 => 107 | 195 => 264 | 218 => 265 | 240 => 161 | 241 => 162 | 219 => 221 | 260 => 269 | 276 => 187 | 277 => 188 | 217 => 173 | 225 => 246 | 224 => 247 | 267 => 248 | 266 => 201 | 314 => 263 | n => n, fun | 9 => 9 | 3 => 3 | 4 => 4 | 72 => 94 | 0 => 0 | 76 => 97 | 105 => 182 | 21 => 21 | 5 => 5 | 70 => 92 | 20 => 20 | 37 => 66 | 75 => 96 | 127 => 123 | 164 => 147 | 46 => 110 | 119 => 188 | 139 => 191 | 138 => 190 | 146 => 184 | 51 => 23 | 80 => 99 | n => n, fun | 1 => 0 | 3 => 4 | 4 => 5 | n => n⟩
theorem lays155 : Go.Proofs.Lays.n155 Tryz.prog lays155_ren := {
 mixed := by kernel_rfl
 f138 := Tryz.func250.trans (congrArg some (by kernel_rfl))
 f143 := Tryz.func251.trans (congrArg some (by kernel_rfl))
 f154 := Tryz.func237.trans (congrArg some (by kernel_rfl))
 f155 := Tryz.func209.trans (congrArg some (by kernel_rfl))
 f165 := Tryz.func105.trans (congrArg some (by kernel_rfl))
 f166 := Tryz.func106.trans (congrArg some (by kernel_rfl))
 f169 := Tryz.func107.trans (congrArg some (by kernel_rfl))
 f195 := Tryz.func264.trans (congrArg some (by kernel_rfl))
 f197 := Tryz.func256.trans (congrArg some (by kernel_rfl))
 f217 := Tryz.func173.trans (congrArg some (by kernel_rfl))
 f218 := Tryz.func265.trans (congrArg some (by kernel_rfl))
 f219 := Tryz.func221.trans (congrArg some (by kernel_rfl))
 f224 := Tryz.func247.trans (congrArg some (by kernel_rfl))
 f225 := Tryz.func246.trans (congrArg some (by kernel_rfl))
 f240 := Tryz.func161.trans (congrArg some (by kernel_rfl))
 f241 := Tryz.func162.trans (congrArg some (by kernel_rfl))
 f260 := Tryz.func269.trans (congrArg some (by kernel_rfl))
 f266 := Tryz.func201.trans (congrArg some (by kernel_rfl))
 f267 := Tryz.func248.trans (congrArg some (by kernel_rfl))
 f276 := Tryz.func187.trans (congrArg some (by kernel_rfl))
 f277 := Tryz.func188.trans (congrArg some (by kernel_rfl))
 f314 := Tryz.func263.trans (congrArg some (by kernel_rfl))
 t0 := Tryz.underlying0
 a0 := Tryz.isAgg0
 z0 := Tryz.sizeOf0
 v0 := Tryz.zeroValue0
 t3 := Tryz.underlying3
 a3 := Tryz.isAgg3
 z3 := Tryz.sizeOf3
 v3 := Tryz.zeroValue3
 t4 := Tryz.underlying4
 a4 := Tryz.isAgg4
 z4 := Tryz.sizeOf4
 v4 := Tryz.zeroValue4
 t5 := Tryz.underlying5
 a5 := Tryz.isAgg5
 z5 := Tryz.sizeOf5
 v5 := Tryz.zeroValue5
 t9 := Tryz.underlying9
 a9 := Tryz.isAgg9
 z9 := Tryz.sizeOf9
 v9 := Tryz.zeroValue9
 t20 := Tryz.underlying20
 a20 := Tryz.isAgg20
 z20 := Tryz.sizeOf20
 v20 := Tryz.zeroValue20
 t21 := Tryz.underlying21
 a21 := Tryz.isAgg21
 z21 := Tryz.sizeOf21
 v21 := Tryz.zeroValue21
 t37 := Tryz.underlying66
 a37 := Tryz.isAgg66
 z37 := Tryz.sizeOf66
 v37 := Tryz.zeroValue66
 t46 := Tryz.underlying110
 a46 := Tryz.isAgg110
 z46 := Tryz.sizeOf110
 v46 := Tryz.zeroValue110
 t51 := Tryz.underlying23
 a51 := Tryz.isAgg23
 z51 := Tryz.sizeOf23
 v51 := Tryz.zeroValue23
 t70 := Tryz.underlying92
 a70 := Tryz.isAgg92
 z70 := Tryz.sizeOf92
 v70 := Tryz.zeroValue92
 t72 := Tryz.underlying94
 a72 := Tryz.isAgg94
 z72 := Tryz.sizeOf94
 v72 := Tryz.zeroValue94
 t75 := Tryz.underlying96
 a75 := Tryz.isAgg96
 z75 := Tryz.sizeOf96
 v75 := Tryz.zeroValue96
 t76 := Tryz.underlying97
 a76 := Tryz.isAgg97
 z76 := Tryz.sizeOf97
 v76 := Tryz.zeroValue97
 t105 := Tryz.underlying182
 a105 := Tryz.isAgg182
 z105 := Tryz.sizeOf182
 v105 := Tryz.zeroValue182
 t119 := Tryz.underlying188
 a119 := Tryz.isAgg188
 z119 := Tryz.sizeOf188
 t127 := Tryz.underlying123
 a127 := Tryz.isAgg123
 z127 := Tryz.sizeOf123
 v127 := Tryz.zeroValue123
 t138 := Tryz.underlying190
 a138 := Tryz.isAgg190
 z138 := Tryz.sizeOf190
 v138 := Tryz.zeroValue190
 t139 := Tryz.underlying191
 a139 := Tryz.isAgg191
 z139 := Tryz.sizeOf191
 v139 := Tryz.zeroValue191
 t146 := Tryz.underlying184
 a146 := Tryz.isAgg184
 z146 := Tryz.sizeOf184
 v146 := Tryz.zeroValue184
 t164 := Tryz.underlying147
 a164 := Tryz.isAgg147
 z164 := Tryz.sizeOf147
 v164 := Tryz.zeroValue147
 g1 := by kernel_rfl
 g3 := by kernel_rfl
 g4 := by kernel_rfl }
theorem extra_lays155 : Builder.Extra Tryz.prog lays155_ren where
 sizeBuilder := by kernel_rfl
 liesBuilder := by kernel_rfl
 t5 := Tryz.underlying5
 a5 := Tryz.isAgg5
 z5 := Tryz.sizeOf5
 v5 := Tryz.zeroValue5
 infoByte := by kernel_rfl
 cellsByte := by kernel_rfl
 sizeByte := by kernel_rfl
 neB5 := by decide
def laysM171_ren : Shelf.Ren := ⟨fun | 171 => 56 | 243 => 77 | 246 => 119 | 283 => 177 | 284 => 178 | 285 => 179 | 286 => 180 | 129 => 203 | 317 => 202 | 318 => 204 | 319 => 205 | 320 => 206 | 337 => 235 | 338 => 236 | n => n, fun | 3 => 3 | 9 => 9 | 2 => 2 | 4 => 4 | 171 => 139 | 0 => 0 | 53 => 101 | 37 => 66 | 5 => 5 | 173 => 142 | 212 => 157 | 51 => 23 | 20 => 20 | 213 => 158 | 46 => 110 | 232 => 180 | 233 => 181 | n => n, fun | 17 => 1 | 18 => 2 | 19 => 3 | n => n⟩
theorem laysM171 : Go.Proofs.LaysM.n171 Tryz.prog laysM171_ren := {
 mixed := by kernel_rfl
 f129 := Tryz.func203.trans (congrArg some (by kernel_rfl))
 f171 := Tryz.func56.trans (congrArg some (by kernel_rfl))
 f243 := Tryz.func77.trans (congrArg some (by kernel_rfl))
 f246 := Tryz.func119.trans (congrArg some (by kernel_rfl))
 f283 := Tryz.func177.trans (congrArg some (by kernel_rfl))
 f284 := Tryz.func178.trans (congrArg some (by kernel_rfl))
 f285 := Tryz.func179.trans (congrArg some (by kernel_rfl))
 f286 := Tryz.func180.trans (congrArg some (by kernel_rfl))
 f317 := Tryz.func202.trans (congrArg some (by kernel_rfl))
 f318 := Tryz.func204.trans (congrArg some (by kernel_rfl))
 f319 := Tryz.func205.trans (congrArg some (by kernel_rfl))
 f320 := Tryz.func206.trans (congrArg some (by kernel_rfl))
 f337 := Tryz.func235.trans (congrArg some (by kernel_rfl))
 f338 := Tryz.func236.trans (congrArg some (by kernel_rfl))
 t0 := Tryz.underlying0
 a0 := Tryz.isAgg0
 z0 := Tryz.sizeOf0
 v0 := Tryz.zeroValue0
 t2 := Tryz.underlying2
 a2 := Tryz.isAgg2
 z2 := Tryz.sizeOf2
 v2 := Tryz.zeroValue2
 t3 := Tryz.underlying3
 a3 := Tryz.isAgg3
 z3 := Tryz.sizeOf3
 v3 := Tryz.zeroValue3
 t4 := Tryz.underlying4
 a4 := Tryz.isAgg4
 z4 := Tryz.sizeOf4
 v4 := Tryz.zeroValue4
 t5 := Tryz.underlying5
 a5 := Tryz.isAgg5
 z5 := Tryz.sizeOf5
 v5 := Tryz.zeroValue5
 t9 := Tryz.underlying9
 a9 := Tryz.isAgg9
 z9 := Tryz.sizeOf9
 v9 := Tryz.zeroValue9
 t20 := Tryz.underlying20
 a20 := Tryz.isAgg20
 z20 := Tryz.sizeOf20
 v20 := Tryz.zeroValue20
 t37 := Tryz.underlying66
 a37 := Tryz.isAgg66
 z37 := Tryz.sizeOf66
 v37 := Tryz.zeroValue66
 t46 := Tryz.underlying110
 a46 := Tryz.isAgg110
 z46 := Tryz.sizeOf110
 v46 := Tryz.zeroValue110
 t51 := Tryz.underlying23
 a51 := Tryz.isAgg23
 z51 := Tryz.sizeOf23
 v51 := Tryz.zeroValue23
 t53 := Tryz.underlying101
 a53 := Tryz.isAgg101
 z53 := Tryz.sizeOf101
 v53 := Tryz.zeroValue101
 t171 := Tryz.underlying139
 a171 := Tryz.isAgg139
 z171 := Tryz.sizeOf139
 v171 := Tryz.zeroValue139
 t173 := Tryz.underlying142
 a173 := Tryz.isAgg142
 z173 := Tryz.sizeOf142
 v173 := Tryz.zeroValue142
 t212 := Tryz.underlying157
 a212 := Tryz.isAgg157
 z212 := Tryz.sizeOf157
 v212 := Tryz.zeroValue157
 t213 := Tryz.underlying158
 a213 := Tryz.isAgg158
 z213 := Tryz.sizeOf158
 t232 := Tryz.underlying180
 a232 := Tryz.isAgg180
 z232 := Tryz.sizeOf180
 v232 := Tryz.zeroValue180
 t233 := Tryz.underlying181
 a233 := Tryz.isAgg181
 z233 := Tryz.sizeOf181
 v233 := Tryz.zeroValue181
 g17 := by kernel_rfl
 g18 := by kernel_rfl
 g19 := by kernel_rfl
 i0 := by kernel_rfl
 i2 := by kernel_rfl
 i3 := by kernel_rfl
 i4 := by kernel_rfl
 i5 := by kernel_rfl
 i9 := by kernel_rfl
 i20 := by kernel_rfl
 i37 := by kernel_rfl
 i46 := by kernel_rfl
 i51 := by kernel_rfl
 i53 := by kernel_rfl
 i171 := by kernel_rfl
 i173 := by kernel_rfl
 i212 := by kernel_rfl
 i232 := by kernel_rfl
 i233 := by kernel_rfl
 m17 := by kernel_rfl
 m18 := by kernel_rfl
 m19 := by kernel_rfl }
def tzLays_ren : Shelf.Ren := ⟨fun k => if k = 27 then 206 else if k = 28 then 235 else if k = 29 then 236 else k, fun k => if k = 0 then 0 else if k = 3 then 3 else if k = 4 then 4 else if k = 5 then 5 else if k = 22 then 101 else if k = 25 then 110 else if k = 27 then 23 else if k = 53 then 180 else if k = 54 then 181 else k, fun k => if k = 0 then 2 else if k = 1 then 3 else k⟩
theorem tzLays : Lays7.n27 Tryz.prog tzLays_ren where
 mixed := by kernel_rfl
 f27 := by show Tryz.prog.funcs[206]? = _; rw [Tryz.func206]; rfl
 f28 := by show Tryz.prog.funcs[235]? = _; rw [Tryz.func235]; rfl
 f29 := by show Tryz.prog.funcs[236]? = _; rw [Tryz.func236]; rfl
 t0 := Tryz.underlying0
 a0 := Tryz.isAgg0
 z0 := Tryz.sizeOf0
 v0 := Tryz.zeroValue0
 i0 := by kernel_rfl
 t3 := Tryz.underlying3
 a3 := Tryz.isAgg3
 z3 := Tryz.sizeOf3
 v3 := Tryz.zeroValue3
 i3 := by kernel_rfl
 t4 := Tryz.underlying4
 a4 := Tryz.isAgg4
 z4 := Tryz.sizeOf4
 v4 := Tryz.zeroValue4
 i4 := by kernel_rfl
 t5 := Tryz.underlying5
 a5 := Tryz.isAgg5
 z5 := Tryz.sizeOf5
 v5 := Tryz.zeroValue5
 i5 := by kernel_rfl
 t22 := Tryz.underlying101
 a22 := Tryz.isAgg101
 z22 := Tryz.sizeOf101
 v22 := Tryz.zeroValue101
 i22 := by kernel_rfl
 t25 := Tryz.underlying110
 a25 := Tryz.isAgg110
 z25 := Tryz.sizeOf110
 v25 := Tryz.zeroValue110
 i25 := by kernel_rfl
 t27 := Tryz.underlying23
 a27 := Tryz.isAgg23
 z27 := Tryz.sizeOf23
 v27 := Tryz.zeroValue23
 i27 := by kernel_rfl
 t53 := Tryz.underlying180
 a53 := Tryz.isAgg180
 z53 := Tryz.sizeOf180
 v53 := Tryz.zeroValue180
 i53 := by kernel_rfl
 t54 := Tryz.underlying181
 a54 := Tryz.isAgg181
 z54 := Tryz.sizeOf181
 g0 := by kernel_rfl
 g1 := by kernel_rfl
def dfLays_ren : Shelf.Ren := ⟨fun k => if k = 10 then 81 else if k = 6 then 121 else k, fun k => if k = 0 then 0 else if k = 3 then 3 else if k = 4 then 4 else if k = 22 then 61 else if k = 23 then 3 else if k = 25 then 89 else k, fun x => x⟩
theorem dfLays : SlLaysH.n10 Tryz.prog dfLays_ren where
 mixed := by kernel_rfl
 f6 := ⟨_, rfl, by show Tryz.prog.funcs[121]? = _; rw [Tryz.func121]; rfl⟩
 f10 := ⟨_, rfl, by show Tryz.prog.funcs[81]? = _; rw [Tryz.func81]; rfl⟩
 t0 := Tryz.underlying0
 a0 := Tryz.isAgg0
 z0 := Tryz.sizeOf0
 v0 := Tryz.zeroValue0
 t3 := Tryz.underlying3
 a3 := Tryz.isAgg3
 z3 := Tryz.sizeOf3
 v3 := Tryz.zeroValue3
 t4 := Tryz.underlying4
 a4 := Tryz.isAgg4
 z4 := Tryz.sizeOf4
 v4 := Tryz.zeroValue4
 t22 := Tryz.underlying61
 a22 := Tryz.isAgg61
 z22 := Tryz.sizeOf61
 v22 := Tryz.zeroValue61
 a23 := Tryz.isAgg3
 z23 := Tryz.sizeOf3
 t25 := Tryz.underlying89
 a25 := Tryz.isAgg89
 z25 := Tryz.sizeOf89
 v25 := Tryz.zeroValue89
theorem del_gives (x : Int) (W : World) : FnGives Tryz.prog 82 #[] #[.int .i64 x] (.bool (tabs x)) W := by
 show Calls Tryz.prog 82 #[.int .i64 x] W _
 go_enter Tryz.func82, Tryz.ntmps82
 go_wp2
 all_goals (go_ret; exact ⟨by simp_all [tabs], 0, rfl⟩)
theorem del_row : DelRow Tryz.prog 81 82 tabs := by
 intro w blk off cap d hblk hH hsz hcap
 have eg : ∀ args w, (callFunc 82 args).run Tryz.prog w = .ok (.enter 82 args) w := enters_of Tryz.func82 (by kernel_rfl) rfl
 exact AnyE.slices_DeleteFunc dfLays (Value.int .i64) (fun _ => rfl) tabs _ #[] eg 0 Tryz.zeroValue3 blk off cap d w (fun W x hb => del_gives x W) (fun n os dk x _ => del_gives x _) hH hsz hcap
theorem del_none : DelNone Tryz.prog 81 82 := by
 intro w a cap
 have hI : ∀ (fv : Value) (w : World), Calls Tryz.prog 121 #[.slice a 0 cap, fv] w fun e w' => e = .returned (.int .i64 (-1)) ∧ w' = w := fun fv w => AnyE.slices_IndexFunc_empty { dfLays with } a cap fv w
 go_enter Tryz.func81, Tryz.ntmps81
 go_wp2_with (go_at_call 121; refine (hI _ _).mono ?_; rintro e w' ⟨rfl, rfl⟩)
 go_ret
 exact ⟨rfl, rfl⟩
def csLays_ren : Shelf.Ren := ⟨fun k => if k = 41 then 53 else k, fun k => if k = 4 then 4 else if k = 22 then 28 else if k = 23 then 9 else k, fun x => x⟩
theorem csLays : SlLaysE0.n41 Tryz.prog csLays_ren where
 mixed := by kernel_rfl
 f41 := ⟨_, rfl, by show Tryz.prog.funcs[53]? = _; rw [Tryz.func53]; rfl⟩
 t4 := Tryz.underlying4
 a4 := Tryz.isAgg4
 z4 := Tryz.sizeOf4
 v4 := Tryz.zeroValue4
 t22 := Tryz.underlying28
 a22 := Tryz.isAgg28
 z22 := Tryz.sizeOf28
 v22 := Tryz.zeroValue28
theorem chk_all0 : (okL.all fun f => chkFn Tryz.prog cfg0 f) = true := by kernel_rfl
theorem chk_all : (okL.all fun f => chkFn Tryz.prog cfg f) = true := by kernel_rfl
theorem ext0 : ∀ g s, cfg0.ext g = some s → ∀ args H r H', s args H = some (r, H') → CallOK Tryz.prog (cfg0.sig g) g args H r H' := by
 intro g s hs args H r H' h
 by_cases h0 : g = 253
 ·subst h0
  injection hs with hs; subst hs
  exact insert_ok insLays h
 by_cases h1 : g = 225
 ·subst h1
  injection hs with hs; subst hs
  exact growT_ok (n := 1) (by_ := 8) (z := .int .i64 0) growintint (by decide) (by kernel_rfl) rfl h
 by_cases h2 : g = 67
 ·subst h2
  injection hs with hs; subst hs
  exact joinT_ok joinLays joinExtra h
 by_cases h3 : g = 190
 ·subst h3
  injection hs with hs; subst hs
  exact splitT_ok lays146 (by kernel_rfl) (by kernel_rfl) h
 by_cases h4 : g = 164
 ·subst h4
  injection hs with hs; subst hs
  exact cutT_ok lays145 (by kernel_rfl) h
 by_cases h5 : g = 116
 ·subst h5
  injection hs with hs; subst hs
  exact indexByteT_ok lays137 h
 by_cases h6 : g = 209
 ·subst h6
  injection hs with hs; subst hs
  exact replaceT_ok lays155 extra_lays155 (by kernel_rfl) h
 by_cases h7 : g = 56
 ·subst h7
  injection hs with hs; subst hs
  exact itoaT_ok laysM171 (by kernel_rfl) h
 by_cases h8 : g = 206
 ·subst h8
  injection hs with hs; subst hs
  exact tzT_ok tzLays (by kernel_rfl) h
 by_cases h9 : g = 81
 ·subst h9
  injection hs with hs; subst hs
  exact deleteT_ok del_row del_none h
 by_cases h10 : g = 53
 ·subst h10
  injection hs with hs; subst hs
  exact cloneT_ok (n := 1) (by_ := 16) (z := .string ByteArray.empty) csLays (by kernel_rfl) rfl h
 ·simp [cfg0, h0, h1, h2, h3, h4, h5, h6, h7, h8, h9, h10] at hs
theorem extc0 : ∀ g, (cfg0.ext g).isSome = true → Callable Tryz.prog g := by
 intro g h
 by_cases h0 : g = 253
 ·subst h0; exact ⟨_, Tryz.func253, rfl, by decide⟩
 by_cases h1 : g = 225
 ·subst h1; exact ⟨_, Tryz.func225, rfl, by decide⟩
 by_cases h2 : g = 67
 ·subst h2; exact ⟨_, Tryz.func67, rfl, by decide⟩
 by_cases h3 : g = 190
 ·subst h3; exact ⟨_, Tryz.func190, rfl, by decide⟩
 by_cases h4 : g = 164
 ·subst h4; exact ⟨_, Tryz.func164, rfl, by decide⟩
 by_cases h5 : g = 116
 ·subst h5; exact ⟨_, Tryz.func116, rfl, by decide⟩
 by_cases h6 : g = 209
 ·subst h6; exact ⟨_, Tryz.func209, rfl, by decide⟩
 by_cases h7 : g = 56
 ·subst h7; exact ⟨_, Tryz.func56, rfl, by decide⟩
 by_cases h8 : g = 206
 ·subst h8; exact ⟨_, Tryz.func206, rfl, by decide⟩
 by_cases h9 : g = 81
 ·subst h9; exact ⟨_, Tryz.func81, rfl, by decide⟩
 by_cases h10 : g = 53
 ·subst h10; exact ⟨_, Tryz.func53, rfl, by decide⟩
 ·simp [cfg0, h0, h1, h2, h3, h4, h5, h6, h7, h8, h9, h10] at h
theorem alt0 : ∀ g s, cfg0.alt g = some s → ∀ args H r H', s args H = some (r, H') → CallOK Tryz.prog {} g args H r H' ∧ Callable Tryz.prog g := by
 intro g s hs args H r H' h
 by_cases k0 : g = 80
 ·subst k0
  injection hs with hs; subst hs
  exact ⟨lossyM_ok h, ⟨_, Tryz.func80, rfl, by decide⟩⟩
 by_cases k1 : g = 53
 ·subst k1
  injection hs with hs; subst hs
  exact ⟨cloneM_ok (z := .string ByteArray.empty) csLays (by kernel_rfl) rfl h, ⟨_, Tryz.func53, rfl, by decide⟩⟩
 ·simp [cfg0, k0, k1] at hs
theorem world0 : World0 Tryz.prog cfg0 where
 ext := ext0
 extc := extc0
 alt := alt0
 chk := by
  intro g _ h
  exact List.all_eq_true.1 chk_all0 g (by simpa [cfg0] using h)
 dyn := by
  intro g h
  simp only [cfg, cfg0, beq_iff_eq] at h
  subst h
  rfl
 mixed := by kernel_rfl
theorem run_0 : ((lcallX Tryz.prog cfg0 4000 13 [] []).map fun r => eqA 2 r.1 (.b true)) = some true := by kernel_rfl
theorem run_1 : ((lcallX Tryz.prog cfg0 4000 31 [] []).map fun r => eqA 2 r.1 (.b true)) = some true := by kernel_rfl
theorem closed_cases {g : Nat} (h : closedL.contains g = true) : g = 13 ∨ g = 31 := by
 simpa [closedL] using h
theorem world : World0 Tryz.prog cfg where
 ext := by
  intro g s hs args H r H' h
  by_cases hc : closedL.contains g = true
  ·have e : cfg.ext g = some fun args H => closedT true H args := by
    show (if closedL.contains g = true then _ else _) = _
    rw [if_pos hc]
   rw [e] at hs
   injection hs with hs; subst hs
   rcases closed_cases hc with rfl | rfl
   ·exact closedT_ok world0 rfl run_0 h
   ·exact closedT_ok world0 rfl run_1 h
  ·have e : cfg.ext g = cfg0.ext g := by
    show (if closedL.contains g = true then _ else _) = _
    rw [if_neg hc]
   rw [e] at hs
   exact ext0 g s hs args H r H' h
 extc := by
  intro g h
  by_cases hc : closedL.contains g = true
  ·rcases closed_cases hc with rfl | rfl
   ·exact ⟨_, Tryz.func13, rfl, by decide⟩
   ·exact ⟨_, Tryz.func31, rfl, by decide⟩
  ·have e : cfg.ext g = cfg0.ext g := by
    show (if closedL.contains g = true then _ else _) = _
    rw [if_neg hc]
   rw [e] at h
   exact extc0 g h
 alt := alt0
 chk := by
  intro g _ h
  exact List.all_eq_true.1 chk_all g (by simpa [cfg, cfg0] using h)
 dyn := by
  intro g h
  simp only [cfg, cfg0, beq_iff_eq] at h
  subst h
  rfl
 mixed := by kernel_rfl
theorem sprlaw11_first_w {H : Heap} : WF Tryz.prog cfg 31 [] H (fun r H' => r = .b true ∧ H' = H) := WF.ext (g := fun args H => closedT true H args) rfl (r := .b true) (H' := H) rfl ⟨rfl, rfl⟩
theorem glob_max (W : World) (h : W.ShapedOpen Tryz.prog) : ∀ g, Tryz.prog.globalNamed "internal/bytealg.MaxLen" = some g → ∃ m, W.cell? ⟨g, 0, none⟩ = some (.int .i64 m) := by
 intro g hg
 obtain rfl : 0 = g := Option.some.inj ((show Tryz.prog.globalNamed "internal/bytealg.MaxLen" = some 0 by kernel_rfl).symm.trans hg)
 exact Go.Proofs.cell_of_shapedOpen_int (zero := #[.int .i64 0]) (t := 3) h (of_decide_eq_true (by kernel_rfl)) (by kernel_rfl) rfl (by kernel_rfl) (by kernel_rfl) Tryz.underlying3
theorem glob_ok (W : World) (h : W.ShapedOpen Tryz.prog) (hp : Lib.TabIs Tryz.prog W "internal/strconv.uint64pow10" .u64 Lib.pow10Tab) (hd : ∀ g, Tryz.prog.globalNamed "math/bits.deBruijn64tab" = some g → ∀ j, j < Lib.deBruijn64tab.length → W.cell? ⟨g, j, none⟩ = some (.int .u8 (Lib.deBruijn64tab.getD j 0))) : GlobOK Tryz.prog W :=
 ⟨glob_max W h, fun _ => hp, hd⟩
end Go.Proofs
