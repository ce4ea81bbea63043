/- The types of the seat as facts for rewriting. -/
import Derived.Test.YtpbemfiedmfpiaaGreatDoorProg
import Derived.Test.YtpbemfiedmfpiaaGreatDoorLvAll8
import Derived.KernelRfl
set_option linter.unusedVariables false
set_option maxRecDepth 100000
namespace Go.Proofs
open Go.Lv
instance : UndIs Tryz.prog 3 (.int .i64) := ⟨Tryz.underlying3⟩
instance : SizeIs Tryz.prog 3 1 := ⟨by unfold sizeT Tables.info?; rw [Tryz.type3]; rfl⟩
instance : BytesIs Tryz.prog 3 8 := ⟨by unfold bytesT Tables.info?; rw [Tryz.type3]; rfl⟩
instance : AggIs Tryz.prog 3 false := ⟨by unfold isAggT; rw [Tryz.underlying3]; rfl⟩
instance : ZeroIs Tryz.prog 3 [.v (.int .i64 0)] := ⟨by unfold zeroA Tables.info?; rw [Tryz.type3]; rfl⟩
instance : UndIs Tryz.prog 4 (.bool) := ⟨Tryz.underlying4⟩
instance : SizeIs Tryz.prog 4 1 := ⟨by unfold sizeT Tables.info?; rw [Tryz.type4]; rfl⟩
instance : AggIs Tryz.prog 4 false := ⟨by unfold isAggT; rw [Tryz.underlying4]; rfl⟩
instance : UndIs Tryz.prog 5 (.int .u8) := ⟨Tryz.underlying5⟩
instance : SizeIs Tryz.prog 5 1 := ⟨by unfold sizeT Tables.info?; rw [Tryz.type5]; rfl⟩
instance : BytesIs Tryz.prog 5 1 := ⟨by unfold bytesT Tables.info?; rw [Tryz.type5]; rfl⟩
instance : AggIs Tryz.prog 5 false := ⟨by unfold isAggT; rw [Tryz.underlying5]; rfl⟩
instance : ZeroIs Tryz.prog 5 [.v (.int .u8 0)] := ⟨by unfold zeroA Tables.info?; rw [Tryz.type5]; rfl⟩
instance : UndIs Tryz.prog 9 (.string) := ⟨Tryz.underlying9⟩
instance : SizeIs Tryz.prog 9 1 := ⟨by unfold sizeT Tables.info?; rw [Tryz.type9]; rfl⟩
instance : BytesIs Tryz.prog 9 16 := ⟨by unfold bytesT Tables.info?; rw [Tryz.type9]; rfl⟩
instance : AggIs Tryz.prog 9 false := ⟨by unfold isAggT; rw [Tryz.underlying9]; rfl⟩
instance : ZeroIs Tryz.prog 9 [.str []] := ⟨by unfold zeroA Tables.info?; rw [Tryz.type9]; rfl⟩
instance : UndIs Tryz.prog 23 (.int .u32) := ⟨Tryz.underlying23⟩
instance : SizeIs Tryz.prog 23 1 := ⟨by unfold sizeT Tables.info?; rw [Tryz.type23]; rfl⟩
instance : AggIs Tryz.prog 23 false := ⟨by unfold isAggT; rw [Tryz.underlying23]; rfl⟩
instance : UndIs Tryz.prog 24 (.int .u16) := ⟨Tryz.underlying24⟩
instance : SizeIs Tryz.prog 24 1 := ⟨by unfold sizeT Tables.info?; rw [Tryz.type24]; rfl⟩
instance : AggIs Tryz.prog 24 false := ⟨by unfold isAggT; rw [Tryz.underlying24]; rfl⟩
instance : UndIs Tryz.prog 25 (.array 8 24) := ⟨Tryz.underlying25⟩
instance : SizeIs Tryz.prog 25 8 := ⟨by unfold sizeT Tables.info?; rw [Tryz.type25]; rfl⟩
instance : AggIs Tryz.prog 25 true := ⟨by unfold isAggT; rw [Tryz.underlying25]; rfl⟩
instance : SizeIs Tryz.prog 27 11 := ⟨by unfold sizeT Tables.info?; rw [Tryz.type27]; rfl⟩
instance : AggIs Tryz.prog 27 true := ⟨by unfold isAggT; rw [Tryz.underlying27]; rfl⟩
instance : UndIs Tryz.prog 28 (.slice 9) := ⟨Tryz.underlying28⟩
instance : SizeIs Tryz.prog 28 1 := ⟨by unfold sizeT Tables.info?; rw [Tryz.type28]; rfl⟩
instance : AggIs Tryz.prog 28 false := ⟨by unfold isAggT; rw [Tryz.underlying28]; rfl⟩
instance : SizeIs Tryz.prog 30 23 := ⟨by unfold sizeT Tables.info?; rw [Tryz.type30]; rfl⟩
instance : AggIs Tryz.prog 30 true := ⟨by unfold isAggT; rw [Tryz.underlying30]; rfl⟩
instance : SizeIs Tryz.prog 49 13 := ⟨by unfold sizeT Tables.info?; rw [Tryz.type49]; rfl⟩
instance : AggIs Tryz.prog 49 true := ⟨by unfold isAggT; rw [Tryz.underlying49]; rfl⟩
instance : ZeroIs Tryz.prog 49 [.str [], .v (.int .i64 0), .str [], .v (.int .u32 0), .v (.int .u16 0), .v (.int .u16 0), .v (.int .u16 0), .v (.int .u16 0), .v (.int .u16 0), .v (.int .u16 0), .v (.int .u16 0), .v (.int .u16 0), .v (.int .i64 0)] := ⟨by unfold zeroA Tables.info?; rw [Tryz.type49]; rfl⟩
instance : UndIs Tryz.prog 61 (.slice 3) := ⟨Tryz.underlying61⟩
instance : UndIs Tryz.prog 66 (.slice 5) := ⟨Tryz.underlying66⟩
instance : UndIs Tryz.prog 84 (.slice 24) := ⟨Tryz.underlying84⟩
instance : UndIs Tryz.prog 101 (.int .u64) := ⟨Tryz.underlying101⟩
instance : UndIs Tryz.prog 110 (.int .u64) := ⟨Tryz.underlying110⟩
instance : UndIs Tryz.prog 158 (.array 65 5) := ⟨Tryz.underlying158⟩
instance : SizeIs Tryz.prog 158 65 := ⟨by unfold sizeT Tables.info?; rw [Tryz.type158]; rfl⟩
instance : FieldIs Tryz.prog 27 0 3 0 1 := ⟨_, _, Tryz.underlying27, rfl, rfl, rfl, SizeIs.h, by decide⟩
instance : FieldIs Tryz.prog 27 1 9 1 1 := ⟨_, _, Tryz.underlying27, rfl, rfl, rfl, SizeIs.h, by decide⟩
instance : FieldIs Tryz.prog 27 2 23 2 1 := ⟨_, _, Tryz.underlying27, rfl, rfl, rfl, SizeIs.h, by decide⟩
instance : FieldIs Tryz.prog 27 3 25 3 8 := ⟨_, _, Tryz.underlying27, rfl, rfl, rfl, SizeIs.h, by decide⟩
instance : FieldIs Tryz.prog 30 0 9 0 1 := ⟨_, _, Tryz.underlying30, rfl, rfl, rfl, SizeIs.h, by decide⟩
instance : FieldIs Tryz.prog 30 1 9 1 1 := ⟨_, _, Tryz.underlying30, rfl, rfl, rfl, SizeIs.h, by decide⟩
instance : FieldIs Tryz.prog 30 2 9 2 1 := ⟨_, _, Tryz.underlying30, rfl, rfl, rfl, SizeIs.h, by decide⟩
instance : FieldIs Tryz.prog 30 3 4 3 1 := ⟨_, _, Tryz.underlying30, rfl, rfl, rfl, SizeIs.h, by decide⟩
instance : FieldIs Tryz.prog 30 4 27 4 11 := ⟨_, _, Tryz.underlying30, rfl, rfl, rfl, SizeIs.h, by decide⟩
instance : FieldIs Tryz.prog 30 5 3 15 1 := ⟨_, _, Tryz.underlying30, rfl, rfl, rfl, SizeIs.h, by decide⟩
instance : FieldIs Tryz.prog 30 7 9 17 1 := ⟨_, _, Tryz.underlying30, rfl, rfl, rfl, SizeIs.h, by decide⟩
instance : FieldIs Tryz.prog 30 8 28 18 1 := ⟨_, _, Tryz.underlying30, rfl, rfl, rfl, SizeIs.h, by decide⟩
instance : FieldIs Tryz.prog 30 10 9 20 1 := ⟨_, _, Tryz.underlying30, rfl, rfl, rfl, SizeIs.h, by decide⟩
instance : FieldIs Tryz.prog 30 12 9 22 1 := ⟨_, _, Tryz.underlying30, rfl, rfl, rfl, SizeIs.h, by decide⟩
instance : FieldIs Tryz.prog 49 0 9 0 1 := ⟨_, _, Tryz.underlying49, rfl, rfl, rfl, SizeIs.h, by decide⟩
instance : FieldIs Tryz.prog 49 1 27 1 11 := ⟨_, _, Tryz.underlying49, rfl, rfl, rfl, SizeIs.h, by decide⟩
instance : FieldIs Tryz.prog 49 2 3 12 1 := ⟨_, _, Tryz.underlying49, rfl, rfl, rfl, SizeIs.h, by decide⟩
instance : PartsIs Tryz.prog 49 [(0, 1), (1, 11), (12, 1)] := ⟨_, Tryz.underlying49, by kernel_rfl⟩
attribute [go_sem] Tryz.results0 Tryz.results1 Tryz.results2 Tryz.results3 Tryz.results4 Tryz.results5 Tryz.results6 Tryz.results7 Tryz.results8 Tryz.results9 Tryz.results10 Tryz.results11 Tryz.results12 Tryz.results13 Tryz.results14 Tryz.results15 Tryz.results16 Tryz.results17 Tryz.results18 Tryz.results19 Tryz.results20 Tryz.results21 Tryz.results22 Tryz.results23 Tryz.results24 Tryz.results25 Tryz.results26 Tryz.results27 Tryz.results28 Tryz.results29 Tryz.results30 Tryz.results31 Tryz.results32 Tryz.results33 Tryz.results34 Tryz.results35 Tryz.results36 Tryz.results37 Tryz.results38 Tryz.results39 Tryz.results40 Tryz.results41 Tryz.results42 Tryz.results43 Tryz.results44 Tryz.results45 Tryz.results46 Tryz.results47 Tryz.results48 Tryz.results49 Tryz.results50 Tryz.results51 Tryz.results52 Tryz.results53 Tryz.results54 Tryz.results55 Tryz.results56 Tryz.results57 Tryz.results58 Tryz.results59 Tryz.results60 Tryz.results61 Tryz.results62 Tryz.results63 Tryz.results64 Tryz.results65 Tryz.results66 Tryz.results67 Tryz.results68 Tryz.results69 Tryz.results70 Tryz.results71 Tryz.results72 Tryz.results73 Tryz.results74 Tryz.results75 Tryz.results76 Tryz.results77 Tryz.results78 Tryz.results79 Tryz.results80 Tryz.results81 Tryz.results82 Tryz.results83 Tryz.results84 Tryz.results85 Tryz.results86 Tryz.results87 Tryz.results88 Tryz.results89 Tryz.results90 Tryz.results91 Tryz.results92 Tryz.results93 Tryz.results94 Tryz.results95 Tryz.results96 Tryz.results97 Tryz.results98 Tryz.results99 Tryz.results100 Tryz.results101 Tryz.results102 Tryz.results103 Tryz.results104 Tryz.results105 Tryz.results106 Tryz.results107 Tryz.results108 Tryz.results109 Tryz.results110 Tryz.results111 Tryz.results112 Tryz.results113 Tryz.results114 Tryz.results115 Tryz.results116 Tryz.results117 Tryz.results118 Tryz.results119 Tryz.results120 Tryz.results121 Tryz.results122 Tryz.results123 Tryz.results124 Tryz.results125 Tryz.results126 Tryz.results127 Tryz.results128 Tryz.results129 Tryz.results130 Tryz.results131 Tryz.results132 Tryz.results133 Tryz.results134 Tryz.results135 Tryz.results136 Tryz.results137 Tryz.results138 Tryz.results139 Tryz.results140 Tryz.results141 Tryz.results142 Tryz.results143 Tryz.results144 Tryz.results145 Tryz.results146 Tryz.results147 Tryz.results148 Tryz.results149 Tryz.results150 Tryz.results151 Tryz.results152 Tryz.results153 Tryz.results154 Tryz.results155 Tryz.results156 Tryz.results157 Tryz.results158 Tryz.results159 Tryz.results160 Tryz.results161 Tryz.results162 Tryz.results163 Tryz.results164 Tryz.results165 Tryz.results166 Tryz.results167 Tryz.results168 Tryz.results169 Tryz.results170 Tryz.results171 Tryz.results172 Tryz.results173 Tryz.results174 Tryz.results175 Tryz.results176 Tryz.results177 Tryz.results178 Tryz.results179 Tryz.results180 Tryz.results181 Tryz.results182 Tryz.results183 Tryz.results184 Tryz.results185 Tryz.results186 Tryz.results187 Tryz.results188 Tryz.results189 Tryz.results190 Tryz.results191 Tryz.results192 Tryz.results193 Tryz.results194 Tryz.results195 Tryz.results196 Tryz.results197 Tryz.results198 Tryz.results199 Tryz.results200 Tryz.results201 Tryz.results202 Tryz.results203 Tryz.results204 Tryz.results205 Tryz.results206 Tryz.results207 Tryz.results208 Tryz.results209 Tryz.results210 Tryz.results211 Tryz.results212 Tryz.results213 Tryz.results214 Tryz.results215 Tryz.results216 Tryz.results217 Tryz.results218 Tryz.results219 Tryz.results220 Tryz.results221 Tryz.results222 Tryz.results223 Tryz.results224 Tryz.results225 Tryz.results226 Tryz.results227 Tryz.results228 Tryz.results229 Tryz.results230 Tryz.results231 Tryz.results232 Tryz.results233 Tryz.results234 Tryz.results235 Tryz.results236 Tryz.results237 Tryz.results238 Tryz.results239 Tryz.results240 Tryz.results241 Tryz.results242 Tryz.results243 Tryz.results244 Tryz.results245 Tryz.results246 Tryz.results247 Tryz.results248 Tryz.results249 Tryz.results250 Tryz.results251 Tryz.results252 Tryz.results253 Tryz.results254 Tryz.results255 Tryz.results256 Tryz.results257 Tryz.results258 Tryz.results259 Tryz.results260 Tryz.results261 Tryz.results262 Tryz.results263 Tryz.results264 Tryz.results265 Tryz.results266 Tryz.results267 Tryz.results268 Tryz.results269 Tryz.results270 Tryz.results271 Tryz.results272 Tryz.results273 Tryz.results274 Tryz.results275 Tryz.results276 Tryz.results277 Tryz.results278 Tryz.results279 Tryz.results280 Tryz.results281 Tryz.results282 Tryz.results283 Tryz.results284 Tryz.results285 Tryz.results286 Tryz.results287 Tryz.results288 Tryz.results289 Tryz.results290 Tryz.results291 Tryz.results292 Tryz.results293 Tryz.results294 Tryz.results295 Tryz.results296 Tryz.results297 Tryz.results298 Tryz.results299 Tryz.results300 Tryz.results301 Tryz.results302
end Go.Proofs
