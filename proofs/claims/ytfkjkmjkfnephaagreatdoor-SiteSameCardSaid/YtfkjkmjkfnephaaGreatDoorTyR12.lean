/- The types of the seat as facts for rewriting. -/
import Derived.Test.YtfkjkmjkfnephaaGreatDoorProg
import Derived.Test.YtfkjkmjkfnephaaGreatDoorLvAll8
import Derived.KernelRfl
set_option linter.unusedVariables false
set_option maxRecDepth 100000
namespace Go.Proofs
open Go.Lv
instance : UndIs Tryz.prog 3 (.int .i64) := ⟨Tryz.underlying3⟩
instance : SizeIs Tryz.prog 3 1 := ⟨by unfold sizeT Tables.info?; rw [Tryz.type3]; rfl⟩
instance : BytesIs Tryz.prog 3 8 := ⟨by unfold bytesT Tables.info?; rw [Tryz.type3]; rfl⟩
instance : AggIs Tryz.prog 3 false := ⟨by unfold isAggT; rw [Tryz.underlying3]; rfl⟩
instance : ZeroIs Tryz.prog 3 [.v (.int .i64 0)] := ⟨by unfold zeroA Tables.info?; rw [Tryz.type3]; rfl⟩
instance : UndIs Tryz.prog 4 (.bool) := ⟨Tryz.underlying4⟩
instance : SizeIs Tryz.prog 4 1 := ⟨by unfold sizeT Tables.info?; rw [Tryz.type4]; rfl⟩
instance : AggIs Tryz.prog 4 false := ⟨by unfold isAggT; rw [Tryz.underlying4]; rfl⟩
instance : UndIs Tryz.prog 5 (.int .u8) := ⟨Tryz.underlying5⟩
instance : SizeIs Tryz.prog 5 1 := ⟨by unfold sizeT Tables.info?; rw [Tryz.type5]; rfl⟩
instance : AggIs Tryz.prog 5 false := ⟨by unfold isAggT; rw [Tryz.underlying5]; rfl⟩
instance : UndIs Tryz.prog 9 (.string) := ⟨Tryz.underlying9⟩
instance : SizeIs Tryz.prog 9 1 := ⟨by unfold sizeT Tables.info?; rw [Tryz.type9]; rfl⟩
instance : AggIs Tryz.prog 9 false := ⟨by unfold isAggT; rw [Tryz.underlying9]; rfl⟩
instance : ZeroIs Tryz.prog 9 [.str []] := ⟨by unfold zeroA Tables.info?; rw [Tryz.type9]; rfl⟩
instance : UndIs Tryz.prog 22 (.slice 9) := ⟨Tryz.underlying22⟩
instance : SizeIs Tryz.prog 22 1 := ⟨by unfold sizeT Tables.info?; rw [Tryz.type22]; rfl⟩
instance : AggIs Tryz.prog 22 false := ⟨by unfold isAggT; rw [Tryz.underlying22]; rfl⟩
instance : UndIs Tryz.prog 25 (.int .u32) := ⟨Tryz.underlying25⟩
instance : AggIs Tryz.prog 25 false := ⟨by unfold isAggT; rw [Tryz.underlying25]; rfl⟩
instance : UndIs Tryz.prog 26 (.int .u16) := ⟨Tryz.underlying26⟩
instance : SizeIs Tryz.prog 26 1 := ⟨by unfold sizeT Tables.info?; rw [Tryz.type26]; rfl⟩
instance : UndIs Tryz.prog 27 (.array 8 26) := ⟨Tryz.underlying27⟩
instance : SizeIs Tryz.prog 27 8 := ⟨by unfold sizeT Tables.info?; rw [Tryz.type27]; rfl⟩
instance : AggIs Tryz.prog 27 true := ⟨by unfold isAggT; rw [Tryz.underlying27]; rfl⟩
instance : SizeIs Tryz.prog 29 11 := ⟨by unfold sizeT Tables.info?; rw [Tryz.type29]; rfl⟩
instance : AggIs Tryz.prog 29 true := ⟨by unfold isAggT; rw [Tryz.underlying29]; rfl⟩
instance : SizeIs Tryz.prog 31 23 := ⟨by unfold sizeT Tables.info?; rw [Tryz.type31]; rfl⟩
instance : AggIs Tryz.prog 31 true := ⟨by unfold isAggT; rw [Tryz.underlying31]; rfl⟩
instance : ZeroIs Tryz.prog 31 [.str [], .str [], .str [], .v (.bool false), .v (.int .i64 0), .str [], .v (.int .u32 0), .v (.int .u16 0), .v (.int .u16 0), .v (.int .u16 0), .v (.int .u16 0), .v (.int .u16 0), .v (.int .u16 0), .v (.int .u16 0), .v (.int .u16 0), .v (.int .i64 0), .v (.bool false), .str [], nilA, .v (.bool false), .str [], .v (.bool false), .str []] := ⟨by unfold zeroA Tables.info?; rw [Tryz.type31]; rfl⟩
instance : SizeIs Tryz.prog 37 13 := ⟨by unfold sizeT Tables.info?; rw [Tryz.type37]; rfl⟩
instance : AggIs Tryz.prog 37 true := ⟨by unfold isAggT; rw [Tryz.underlying37]; rfl⟩
instance : ZeroIs Tryz.prog 37 [.str [], .v (.int .i64 0), .str [], .v (.int .u32 0), .v (.int .u16 0), .v (.int .u16 0), .v (.int .u16 0), .v (.int .u16 0), .v (.int .u16 0), .v (.int .u16 0), .v (.int .u16 0), .v (.int .u16 0), .v (.int .i64 0)] := ⟨by unfold zeroA Tables.info?; rw [Tryz.type37]; rfl⟩
instance : UndIs Tryz.prog 47 (.slice 3) := ⟨Tryz.underlying47⟩
instance : UndIs Tryz.prog 55 (.slice 5) := ⟨Tryz.underlying55⟩
instance : FieldIs Tryz.prog 29 0 3 0 1 := ⟨_, _, Tryz.underlying29, rfl, rfl, rfl, SizeIs.h, by decide⟩
instance : FieldIs Tryz.prog 29 1 9 1 1 := ⟨_, _, Tryz.underlying29, rfl, rfl, rfl, SizeIs.h, by decide⟩
instance : FieldIs Tryz.prog 31 0 9 0 1 := ⟨_, _, Tryz.underlying31, rfl, rfl, rfl, SizeIs.h, by decide⟩
instance : FieldIs Tryz.prog 31 1 9 1 1 := ⟨_, _, Tryz.underlying31, rfl, rfl, rfl, SizeIs.h, by decide⟩
instance : FieldIs Tryz.prog 31 2 9 2 1 := ⟨_, _, Tryz.underlying31, rfl, rfl, rfl, SizeIs.h, by decide⟩
instance : FieldIs Tryz.prog 31 3 4 3 1 := ⟨_, _, Tryz.underlying31, rfl, rfl, rfl, SizeIs.h, by decide⟩
instance : FieldIs Tryz.prog 31 4 29 4 11 := ⟨_, _, Tryz.underlying31, rfl, rfl, rfl, SizeIs.h, by decide⟩
instance : FieldIs Tryz.prog 31 5 3 15 1 := ⟨_, _, Tryz.underlying31, rfl, rfl, rfl, SizeIs.h, by decide⟩
instance : FieldIs Tryz.prog 31 7 9 17 1 := ⟨_, _, Tryz.underlying31, rfl, rfl, rfl, SizeIs.h, by decide⟩
instance : FieldIs Tryz.prog 31 8 22 18 1 := ⟨_, _, Tryz.underlying31, rfl, rfl, rfl, SizeIs.h, by decide⟩
instance : FieldIs Tryz.prog 31 9 4 19 1 := ⟨_, _, Tryz.underlying31, rfl, rfl, rfl, SizeIs.h, by decide⟩
instance : FieldIs Tryz.prog 31 10 9 20 1 := ⟨_, _, Tryz.underlying31, rfl, rfl, rfl, SizeIs.h, by decide⟩
instance : FieldIs Tryz.prog 31 12 9 22 1 := ⟨_, _, Tryz.underlying31, rfl, rfl, rfl, SizeIs.h, by decide⟩
instance : FieldIs Tryz.prog 37 1 29 1 11 := ⟨_, _, Tryz.underlying37, rfl, rfl, rfl, SizeIs.h, by decide⟩
instance : FieldIs Tryz.prog 37 2 3 12 1 := ⟨_, _, Tryz.underlying37, rfl, rfl, rfl, SizeIs.h, by decide⟩
instance : PartsIs Tryz.prog 37 [(0, 1), (1, 11), (12, 1)] := ⟨_, Tryz.underlying37, by kernel_rfl⟩
attribute [go_sem] Tryz.results0 Tryz.results1 Tryz.results2 Tryz.results3 Tryz.results4 Tryz.results5 Tryz.results6 Tryz.results7 Tryz.results8 Tryz.results9 Tryz.results10 Tryz.results11 Tryz.results12 Tryz.results13 Tryz.results14 Tryz.results15 Tryz.results16 Tryz.results17 Tryz.results18 Tryz.results19 Tryz.results20 Tryz.results21 Tryz.results22 Tryz.results23 Tryz.results24 Tryz.results25 Tryz.results26 Tryz.results27 Tryz.results28 Tryz.results29 Tryz.results30 Tryz.results31 Tryz.results32 Tryz.results33 Tryz.results34 Tryz.results35 Tryz.results36 Tryz.results37 Tryz.results38 Tryz.results39 Tryz.results40 Tryz.results41 Tryz.results42 Tryz.results43 Tryz.results44 Tryz.results45 Tryz.results46 Tryz.results47 Tryz.results48 Tryz.results49 Tryz.results50 Tryz.results51 Tryz.results52 Tryz.results53 Tryz.results54 Tryz.results55 Tryz.results56 Tryz.results57 Tryz.results58 Tryz.results59 Tryz.results60 Tryz.results61 Tryz.results62 Tryz.results63 Tryz.results64 Tryz.results65 Tryz.results66 Tryz.results67 Tryz.results68 Tryz.results69 Tryz.results70 Tryz.results71 Tryz.results72 Tryz.results73 Tryz.results74 Tryz.results75 Tryz.results76 Tryz.results77 Tryz.results78 Tryz.results79 Tryz.results80 Tryz.results81 Tryz.results82 Tryz.results83 Tryz.results84 Tryz.results85 Tryz.results86 Tryz.results87 Tryz.results88 Tryz.results89 Tryz.results90 Tryz.results91 Tryz.results92 Tryz.results93 Tryz.results94 Tryz.results95 Tryz.results96 Tryz.results97 Tryz.results98 Tryz.results99 Tryz.results100 Tryz.results101 Tryz.results102 Tryz.results103 Tryz.results104 Tryz.results105 Tryz.results106 Tryz.results107 Tryz.results108 Tryz.results109 Tryz.results110 Tryz.results111 Tryz.results112 Tryz.results113 Tryz.results114 Tryz.results115 Tryz.results116 Tryz.results117 Tryz.results118 Tryz.results119 Tryz.results120 Tryz.results121 Tryz.results122 Tryz.results123 Tryz.results124 Tryz.results125 Tryz.results126 Tryz.results127 Tryz.results128 Tryz.results129 Tryz.results130 Tryz.results131 Tryz.results132 Tryz.results133 Tryz.results134 Tryz.results135 Tryz.results136 Tryz.results137 Tryz.results138 Tryz.results139 Tryz.results140 Tryz.results141 Tryz.results142 Tryz.results143 Tryz.results144 Tryz.results145 Tryz.results146 Tryz.results147 Tryz.results148 Tryz.results149 Tryz.results150 Tryz.results151 Tryz.results152 Tryz.results153 Tryz.results154 Tryz.results155 Tryz.results156 Tryz.results157 Tryz.results158 Tryz.results159 Tryz.results160 Tryz.results161 Tryz.results162 Tryz.results163 Tryz.results164 Tryz.results165 Tryz.results166 Tryz.results167 Tryz.results168 Tryz.results169 Tryz.results170 Tryz.results171 Tryz.results172 Tryz.results173 Tryz.results174 Tryz.results175 Tryz.results176 Tryz.results177
end Go.Proofs
