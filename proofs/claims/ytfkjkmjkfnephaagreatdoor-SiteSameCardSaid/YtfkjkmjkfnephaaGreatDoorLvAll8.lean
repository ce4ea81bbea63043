/- A value semantics of the loaded code, its soundness, and walks through functions over it. -/
import Derived.Test.YtfkjkmjkfnephaaGreatDoorLvAll7
import Derived.Laws.Strings
set_option linter.unusedVariables false
set_option linter.unusedSimpArgs false
namespace Go.Lv
def AV.str (l : List UInt8) : AV := .v (.string ⟨⟨l⟩⟩)
def AV.bytes (l : List UInt8) : AV := .sl (l.map byteA)
def ix {α : Type} [Inhabited α] (xs : List α) (i : Int) : α := xs.getD i.toNat default
attribute [go_sem] decide_eq_true_eq decide_eq_false_iff_not Bool.not_eq_true' Bool.not_eq_false' List.map_cons List.map_nil Option.map_some Option.map_none decide_true decide_false
class CellsN {α : Type} (f : α → AV) (n : outParam Nat) : Prop where
 h : ∀ x, (f x).cells.length = n
instance : CellsN (fun n : Int => AV.v (.int .i64 n)) 1 := ⟨fun _ => rfl⟩
instance : CellsN (fun n : Bool => AV.v (.bool n)) 1 := ⟨fun _ => rfl⟩
instance : CellsN AV.str 1 := ⟨fun _ => rfl⟩
instance : CellsN byteA 1 := ⟨fun _ => rfl⟩
instance : CellsN AV.bytes 1 := ⟨fun _ => rfl⟩
@[go_sem] theorem owA_str {l : List UInt8} : owA (AV.str l) = AV.str l := rfl
@[go_sem] theorem owA_byte {b : UInt8} : owA (byteA b) = byteA b := rfl
@[go_sem] theorem owA_nilA : owA nilA = nilA := rfl
@[go_sem] theorem plainA_str {l : List UInt8} : plainA (AV.str l) = AV.str l := rfl
@[go_sem] theorem plainA_byte {b : UInt8} : plainA (byteA b) = byteA b := rfl
class NoMark {α : Type} (f : α → AV) : Prop where
 o : ∀ x, owA (f x) = f x
 p : ∀ x, plainA (f x) = f x
instance : NoMark AV.bytes := ⟨fun _ => rfl, fun _ => rfl⟩
@[go_sem] theorem owA_bytes {l : List UInt8} : owA (AV.bytes l) = AV.bytes l := rfl
@[go_sem] theorem plainA_bytes {l : List UInt8} : plainA (AV.bytes l) = AV.bytes l := rfl
section
variable {P : Program} {e : Env} {H : Heap}
@[go_sem] theorem ev_str {l : List UInt8} : ev e (.const (.string { data := List.toArray l })) = AV.str l := rfl
@[go_sem] theorem ev_str0 : ev e (.const (.string ByteArray.empty)) = AV.str [] := rfl
@[go_sem] theorem wrap_i64 {x : Int} (h1 : -9223372036854775808 ≤ x) (h2 : x < 9223372036854775808) : IntKind.wrap .i64 x = x := by
 simp only [IntKind.wrap, IntKind.signed, IntKind.bits] at *
 first
  | omega
  | (split <;> omega)
  | (simp; omega)
@[go_sem] theorem wrap_i32 {x : Int} (h1 : -2147483648 ≤ x) (h2 : x < 2147483648) : IntKind.wrap .i32 x = x := by
 simp only [IntKind.wrap, IntKind.signed, IntKind.bits] at *
 first
  | omega
  | (split <;> omega)
  | (simp; omega)
@[go_sem] theorem wrap_i16 {x : Int} (h1 : -32768 ≤ x) (h2 : x < 32768) : IntKind.wrap .i16 x = x := by
 simp only [IntKind.wrap, IntKind.signed, IntKind.bits] at *
 first
  | omega
  | (split <;> omega)
  | (simp; omega)
@[go_sem] theorem wrap_i8 {x : Int} (h1 : -128 ≤ x) (h2 : x < 128) : IntKind.wrap .i8 x = x := by
 simp only [IntKind.wrap, IntKind.signed, IntKind.bits] at *
 first
  | omega
  | (split <;> omega)
  | (simp; omega)
@[go_sem] theorem wrap_u8 {x : Int} (h1 : 0 ≤ x) (h2 : x < 256) : IntKind.wrap .u8 x = x := by
 simp only [IntKind.wrap, IntKind.signed, IntKind.bits] at *
 first
  | omega
  | (split <;> omega)
  | (simp; omega)
@[go_sem] theorem wrap_u16 {x : Int} (h1 : 0 ≤ x) (h2 : x < 65536) : IntKind.wrap .u16 x = x := by
 simp only [IntKind.wrap, IntKind.signed, IntKind.bits] at *
 first
  | omega
  | (split <;> omega)
  | (simp; omega)
@[go_sem] theorem wrap_u32 {x : Int} (h1 : 0 ≤ x) (h2 : x < 4294967296) : IntKind.wrap .u32 x = x := by
 simp only [IntKind.wrap, IntKind.signed, IntKind.bits] at *
 first
  | omega
  | (split <;> omega)
  | (simp; omega)
@[go_sem] theorem wrap_u64 {x : Int} (h1 : 0 ≤ x) (h2 : x < 18446744073709551616) : IntKind.wrap .u64 x = x := by
 simp only [IntKind.wrap, IntKind.signed, IntKind.bits] at *
 first
  | omega
  | (split <;> omega)
  | (simp; omega)
@[go_sem] theorem wrap_byte_i64 {b : UInt8} : IntKind.wrap .i64 (b.toNat : Int) = b.toNat := by
 have := b.toNat_lt
 exact wrap_i64 (by omega) (by omega)
@[go_sem] theorem wrap_byte_u64 {b : UInt8} : IntKind.wrap .u64 (b.toNat : Int) = b.toNat := by
 have := b.toNat_lt
 exact wrap_u64 (by omega) (by omega)
@[go_sem] theorem wrap_byte_u32 {b : UInt8} : IntKind.wrap .u32 (b.toNat : Int) = b.toNat := by
 have := b.toNat_lt
 exact wrap_u32 (by omega) (by omega)
@[go_sem] theorem wrap_byte_i32 {b : UInt8} : IntKind.wrap .i32 (b.toNat : Int) = b.toNat := by
 have := b.toNat_lt
 exact wrap_i32 (by omega) (by omega)
@[go_sem] theorem wrap_byte_u16 {b : UInt8} : IntKind.wrap .u16 (b.toNat : Int) = b.toNat := by
 have := b.toNat_lt
 exact wrap_u16 (by omega) (by omega)
@[go_sem] theorem wrap_byte_u8 {b : UInt8} : IntKind.wrap .u8 (b.toNat : Int) = b.toNat := by
 have := b.toNat_lt
 exact wrap_u8 (by omega) (by omega)
variable {xt : TypeId} {k k' : IntKind} {x y : Int}
@[go_sem] theorem bin_add : bin P .add xt (.v (.int k x)) (.v (.int k y)) = some (.v (.int k (k.wrap (x + y)))) := by simp [bin, binI]
@[go_sem] theorem bin_sub : bin P .sub xt (.v (.int k x)) (.v (.int k y)) = some (.v (.int k (k.wrap (x - y)))) := by simp [bin, binI]
@[go_sem] theorem bin_mul : bin P .mul xt (.v (.int k x)) (.v (.int k y)) = some (.v (.int k (k.wrap (x * y)))) := by simp [bin, binI]
@[go_sem] theorem bin_quo (h : y ≠ 0) : bin P .quo xt (.v (.int k x)) (.v (.int k y)) = some (.v (.int k (k.wrap (x.tdiv y)))) := by simp [bin, binI, h]
@[go_sem] theorem bin_rem (h : y ≠ 0) : bin P .rem xt (.v (.int k x)) (.v (.int k y)) = some (.v (.int k (x.tmod y))) := by simp [bin, binI, h]
theorem bin_shl' (h : 0 ≤ y) : bin P .shl xt (.v (.int k x)) (.v (.int k' y)) = some (.v (.int k (k.wrap (x * 2 ^ (min y.toNat k.bits))))) := by simp [bin, Int.not_lt.2 h]
theorem bin_shr' (h : 0 ≤ y) : bin P .shr xt (.v (.int k x)) (.v (.int k' y)) = some (.v (.int k (x.fdiv (2 ^ (min y.toNat k.bits))))) := by simp [bin, Int.not_lt.2 h]
theorem fdiv_pow (x : Int) (n : Nat) : x.fdiv (2 ^ n) = x / 2 ^ n := Int.fdiv_eq_ediv_of_nonneg x (Int.le_of_lt (Int.pow_pos (by omega)))
@[go_sem] theorem bin_shl_i64 (h : 0 ≤ y) (h1 : y < 64) : bin P .shl xt (.v (.int .i64 x)) (.v (.int k' y)) = some (.v (.int .i64 (IntKind.wrap .i64 (x * 2 ^ y.toNat)))) := by
 rw [bin_shl' h, show min y.toNat (IntKind.bits .i64) = y.toNat from Nat.min_eq_left (by show y.toNat ≤ 64; omega)]
@[go_sem] theorem bin_shr_i64 (h : 0 ≤ y) (h1 : y < 64) : bin P .shr xt (.v (.int .i64 x)) (.v (.int k' y)) = some (.v (.int .i64 (x / 2 ^ y.toNat))) := by
 rw [bin_shr' h, show min y.toNat (IntKind.bits .i64) = y.toNat from Nat.min_eq_left (by show y.toNat ≤ 64; omega), fdiv_pow]
@[go_sem] theorem bin_shl_u64 (h : 0 ≤ y) (h1 : y < 64) : bin P .shl xt (.v (.int .u64 x)) (.v (.int k' y)) = some (.v (.int .u64 (IntKind.wrap .u64 (x * 2 ^ y.toNat)))) := by
 rw [bin_shl' h, show min y.toNat (IntKind.bits .u64) = y.toNat from Nat.min_eq_left (by show y.toNat ≤ 64; omega)]
@[go_sem] theorem bin_shr_u64 (h : 0 ≤ y) (h1 : y < 64) : bin P .shr xt (.v (.int .u64 x)) (.v (.int k' y)) = some (.v (.int .u64 (x / 2 ^ y.toNat))) := by
 rw [bin_shr' h, show min y.toNat (IntKind.bits .u64) = y.toNat from Nat.min_eq_left (by show y.toNat ≤ 64; omega), fdiv_pow]
@[go_sem] theorem bin_shl_u32 (h : 0 ≤ y) (h1 : y < 32) : bin P .shl xt (.v (.int .u32 x)) (.v (.int k' y)) = some (.v (.int .u32 (IntKind.wrap .u32 (x * 2 ^ y.toNat)))) := by
 rw [bin_shl' h, show min y.toNat (IntKind.bits .u32) = y.toNat from Nat.min_eq_left (by show y.toNat ≤ 32; omega)]
@[go_sem] theorem bin_shr_u32 (h : 0 ≤ y) (h1 : y < 32) : bin P .shr xt (.v (.int .u32 x)) (.v (.int k' y)) = some (.v (.int .u32 (x / 2 ^ y.toNat))) := by
 rw [bin_shr' h, show min y.toNat (IntKind.bits .u32) = y.toNat from Nat.min_eq_left (by show y.toNat ≤ 32; omega), fdiv_pow]
@[go_sem] theorem bin_shl_i32 (h : 0 ≤ y) (h1 : y < 32) : bin P .shl xt (.v (.int .i32 x)) (.v (.int k' y)) = some (.v (.int .i32 (IntKind.wrap .i32 (x * 2 ^ y.toNat)))) := by
 rw [bin_shl' h, show min y.toNat (IntKind.bits .i32) = y.toNat from Nat.min_eq_left (by show y.toNat ≤ 32; omega)]
@[go_sem] theorem bin_shr_i32 (h : 0 ≤ y) (h1 : y < 32) : bin P .shr xt (.v (.int .i32 x)) (.v (.int k' y)) = some (.v (.int .i32 (x / 2 ^ y.toNat))) := by
 rw [bin_shr' h, show min y.toNat (IntKind.bits .i32) = y.toNat from Nat.min_eq_left (by show y.toNat ≤ 32; omega), fdiv_pow]
@[go_sem] theorem bin_shl_u16 (h : 0 ≤ y) (h1 : y < 16) : bin P .shl xt (.v (.int .u16 x)) (.v (.int k' y)) = some (.v (.int .u16 (IntKind.wrap .u16 (x * 2 ^ y.toNat)))) := by
 rw [bin_shl' h, show min y.toNat (IntKind.bits .u16) = y.toNat from Nat.min_eq_left (by show y.toNat ≤ 16; omega)]
@[go_sem] theorem bin_shr_u16 (h : 0 ≤ y) (h1 : y < 16) : bin P .shr xt (.v (.int .u16 x)) (.v (.int k' y)) = some (.v (.int .u16 (x / 2 ^ y.toNat))) := by
 rw [bin_shr' h, show min y.toNat (IntKind.bits .u16) = y.toNat from Nat.min_eq_left (by show y.toNat ≤ 16; omega), fdiv_pow]
@[go_sem] theorem bin_shl_u8 (h : 0 ≤ y) (h1 : y < 8) : bin P .shl xt (.v (.int .u8 x)) (.v (.int k' y)) = some (.v (.int .u8 (IntKind.wrap .u8 (x * 2 ^ y.toNat)))) := by
 rw [bin_shl' h, show min y.toNat (IntKind.bits .u8) = y.toNat from Nat.min_eq_left (by show y.toNat ≤ 8; omega)]
@[go_sem] theorem bin_shr_u8 (h : 0 ≤ y) (h1 : y < 8) : bin P .shr xt (.v (.int .u8 x)) (.v (.int k' y)) = some (.v (.int .u8 (x / 2 ^ y.toNat))) := by
 rw [bin_shr' h, show min y.toNat (IntKind.bits .u8) = y.toNat from Nat.min_eq_left (by show y.toNat ≤ 8; omega), fdiv_pow]
@[go_sem] theorem bin_eql : bin P .eql xt (.v (.int k x)) (.v (.int k y)) = some (.v (.bool (decide (x = y)))) := by
 simp only [bin, binI, if_true, Option.map_some, Option.some.injEq, AV.v.injEq, Value.bool.injEq]; exact Bool.eq_iff_iff.2 (by simp)
@[go_sem] theorem bin_neq : bin P .neq xt (.v (.int k x)) (.v (.int k y)) = some (.v (.bool (decide (x ≠ y)))) := by
 simp only [bin, binI, if_true, Option.map_some, Option.some.injEq, AV.v.injEq, Value.bool.injEq]; exact Bool.eq_iff_iff.2 (by simp)
@[go_sem] theorem bin_lss : bin P .lss xt (.v (.int k x)) (.v (.int k y)) = some (.v (.bool (decide (x < y)))) := by simp [bin, binI]
@[go_sem] theorem bin_leq : bin P .leq xt (.v (.int k x)) (.v (.int k y)) = some (.v (.bool (decide (x ≤ y)))) := by simp [bin, binI]
@[go_sem] theorem bin_gtr : bin P .gtr xt (.v (.int k x)) (.v (.int k y)) = some (.v (.bool (decide (y < x)))) := by simp [bin, binI]
@[go_sem] theorem bin_geq : bin P .geq xt (.v (.int k x)) (.v (.int k y)) = some (.v (.bool (decide (y ≤ x)))) := by simp [bin, binI]
@[go_sem] theorem un1_neg : un1 .neg (.v (.int k x)) = some (.v (.int k (k.wrap (0 - x)))) := rfl
@[go_sem] theorem un1_not {b : Bool} : un1 .not (.v (.bool b)) = some (.v (.bool (!b))) := rfl
@[go_sem] theorem decide_not_b {p : Prop} [Decidable p] : (!decide p) = decide (¬ p) := by by_cases h : p <;> simp [h]
@[go_sem] theorem minA_v : minA (.v (.int k x)) (.v (.int k' y)) = some (.v (.int k (min x y))) := by
 simp only [minA, Option.some.injEq, AV.v.injEq, Value.int.injEq, true_and]; split <;> omega
@[go_sem] theorem maxA_v : maxA (.v (.int k x)) (.v (.int k' y)) = some (.v (.int k (max x y))) := by
 simp only [maxA, Option.some.injEq, AV.v.injEq, Value.int.injEq, true_and]; split <;> omega
@[go_sem] theorem sdiv_pos {x y : Int} (h : 0 ≤ x) : x.tdiv y = x / y := Int.tdiv_eq_ediv_of_nonneg h
@[go_sem] theorem smod_pos {x y : Int} (h : 0 ≤ x) : x.tmod y = x % y := Int.tmod_eq_emod_of_nonneg h
@[go_sem] theorem fdiv_pos {x y : Int} (h : 0 ≤ y) : x.fdiv y = x / y := Int.fdiv_eq_ediv_of_nonneg x h
def boolD (op : BinOp) (u : Option TypeDesc) (x y : Bool) : Option AV :=
 match u, op with
 | some .bool, .eql => some (.b (x == y))
 | some .bool, .neq => some (.b (!(x == y)))
 | _, _ => none
@[go_sem] theorem bin_bool {op : BinOp} {a b : Bool} : bin P op xt (.v (.bool a)) (.v (.bool b)) = boolD op (P.underlying xt) a b := by
 unfold bin boolD; rfl
@[go_sem] theorem boolD_eql {a b : Bool} : boolD .eql (some .bool) a b = some (.v (.bool (a == b))) := rfl
@[go_sem] theorem boolD_neq {a b : Bool} : boolD .neq (some .bool) a b = some (.v (.bool (a != b))) := rfl
theorem toList_mk (l : List UInt8) : ByteArray.toList ⟨⟨l⟩⟩ = l := ByteArray.toList_eq _
theorem mk_append (a b : List UInt8) : (⟨⟨a⟩⟩ : ByteArray) ++ ⟨⟨b⟩⟩ = ⟨⟨a ++ b⟩⟩ := by
 have h : ∀ x y : ByteArray, x.data.toList = y.data.toList → x = y := by
  intro x y h; cases x; cases y; rename_i a b; cases a; cases b; simpa using h
 exact h _ _ (by simp)
@[go_sem] theorem bin_seql {a b : List UInt8} : bin P .eql xt (AV.str a) (AV.str b) = some (.v (.bool (decide (a = b)))) := by
 simp only [bin, AV.str, binS, toList_mk, Option.map_some, Option.some.injEq, AV.v.injEq, Value.bool.injEq]; exact Bool.eq_iff_iff.2 (by simp)
@[go_sem] theorem bin_sneq {a b : List UInt8} : bin P .neq xt (AV.str a) (AV.str b) = some (.v (.bool (decide (a ≠ b)))) := by
 simp only [bin, AV.str, binS, toList_mk, Option.map_some, Option.some.injEq, AV.v.injEq, Value.bool.injEq]; exact Bool.eq_iff_iff.2 (by simp)
@[go_sem] theorem bin_slss {a b : List UInt8} : bin P .lss xt (AV.str a) (AV.str b) = some (.v (.bool (Op.bytesLess a b))) := by simp only [bin, AV.str, binS, toList_mk, Option.map_some]
@[go_sem] theorem bin_sgtr {a b : List UInt8} : bin P .gtr xt (AV.str a) (AV.str b) = some (.v (.bool (!(Op.bytesLess a b || a == b)))) := by simp only [bin, AV.str, binS, toList_mk, Option.map_some]
@[go_sem] theorem bin_sleq {a b : List UInt8} : bin P .leq xt (AV.str a) (AV.str b) = some (.v (.bool (Op.bytesLess a b || a == b))) := by simp only [bin, AV.str, binS, toList_mk, Option.map_some]
@[go_sem] theorem bin_sgeq {a b : List UInt8} : bin P .geq xt (AV.str a) (AV.str b) = some (.v (.bool (!(Op.bytesLess a b)))) := by simp only [bin, AV.str, binS, toList_mk, Option.map_some]
@[go_sem] theorem bin_sadd {a b : List UInt8} (h : (a.length + b.length : Int) ≤ 140737488355328) : bin P .add xt (AV.str a) (AV.str b) = some (AV.str (a ++ b)) := by
 have h' : (⟨⟨a⟩⟩ : ByteArray).size + (⟨⟨b⟩⟩ : ByteArray).size ≤ 140737488355328 := by
  show a.length + b.length ≤ _
  omega
 simp only [bin, AV.str, binS, if_pos h', Option.map_some, mk_append]
def convD (P : Program) (u v : Option TypeDesc) (a : AV) : Option AV :=
 match u, v, a with
 | some _, some (.int k), .v (.int _ n) => some (.v (.int k (k.wrap n)))
 | some _, some .string, .v (.string s) => some (.s s)
 | some (.slice e), some .string, .sl xs =>
  match P.underlying e with
  | some (.int .u8) => (bytesOfA xs).map .s
  | _ => none
 | some .string, some (.slice e), .v (.string s) =>
  match P.underlying e with
  | some (.int .u8) => some (strA s)
  | _ => none
 | _, _, _ => none
@[go_sem] theorem conv_D {s d : TypeId} {a : AV} : conv P s d a = convD P (P.underlying s) (P.underlying d) a := rfl
@[go_sem] theorem convD_int {u : TypeDesc} : convD P (some u) (some (.int k)) (.v (.int k' x)) = some (.v (.int k (k.wrap x))) := by
 cases u <;> rfl
@[go_sem] theorem convD_str {u : TypeDesc} {l : List UInt8} : convD P (some u) (some .string) (AV.str l) = some (AV.str l) := by
 cases u <;> rfl
def byteD : Option TypeDesc → Option AV → Option AV
 | some (.int .u8), a => a
 | _, _ => none
@[go_sem] theorem byteD_u8 {a : Option AV} : byteD (some (.int .u8)) a = a := rfl
theorem byteOfA_byteA (b : UInt8) : byteOfA (byteA b) = some b := by
 simp [byteOfA, byteA]
theorem bytesOfA_map (l : List UInt8) : bytesOfA (l.map byteA) = some ⟨⟨l⟩⟩ := by
 unfold bytesOfA
 rw [List.mapM_map]
 have : ∀ l : List UInt8, List.mapM (byteOfA ∘ byteA) l = some l := by
  intro l
  induction l with
  | nil => rfl
  | cons b l ih => rw [List.mapM_cons]; simp [byteOfA_byteA, ih]
 rw [this]; rfl
@[go_sem] theorem convD_bytes {el : TypeId} {l : List UInt8} : convD P (some (.slice el)) (some .string) (.sl (l.map byteA)) = byteD (P.underlying el) (some (AV.str l)) := by
 unfold convD byteD
 simp only [bytesOfA_map, Option.map_some]
 split <;> simp_all [AV.str]
@[go_sem] theorem convD_bytes0 {el : TypeId} : convD P (some (.slice el)) (some .string) (.sl []) = byteD (P.underlying el) (some (AV.str [])) := convD_bytes (l := [])
@[go_sem] theorem convD_toBytes {el : TypeId} {l : List UInt8} : convD P (some .string) (some (.slice el)) (AV.str l) = byteD (P.underlying el) (some (.sl (l.map byteA))) := by
 unfold convD byteD AV.str
 simp only [strA]
 split <;> simp_all
theorem idx_ok {n : Nat} {i : Int} (h0 : 0 ≤ i) (h1 : i < n) : idx n i = some i.toNat := by simp [idx, h0, h1]
def indexD (P : Program) (u : Option TypeDesc) (x i : AV) : Option AV :=
 match u, x, i with
 | some .string, .v (.string s), .v (.int _ i) => (idx s.size i).bind fun k => (s.data[k]?).map byteA
 | some (.array len e), .agg cs, .v (.int _ i) => (idx len i).bind fun k => (sizeT P e).bind fun n => partA P e cs (k * n)
 | _, _, _ => none
@[go_sem] theorem index_D {t : TypeId} {x i : AV} : indexA P t x i = indexD P (P.underlying t) x i := rfl
@[go_sem] theorem indexD_str {l : List UInt8} {i : Int} (h0 : 0 ≤ i) (h1 : i < l.length) : indexD P (some .string) (AV.str l) (.v (.int k i)) = some (byteA (ix l i)) := by
 have h2 : i.toNat < l.length := by omega
 show ((idx l.length i).bind fun k => (l.toArray[k]?).map byteA) = _
 rw [idx_ok h0 h1]
 simp [ix, h2]
@[go_sem] theorem indexD_arr {len : Nat} {el : TypeId} {cs : List AV} {i : Int} (h0 : 0 ≤ i) (h1 : i < len) : indexD P (some (.array len el)) (.agg cs) (.v (.int k i)) = (sizeT P el).bind fun n => partA P el cs (i.toNat * n) := by
 show ((idx len i).bind fun k => (sizeT P el).bind fun n => partA P el cs (k * n)) = _
 rw [idx_ok h0 h1]; rfl
def indexAddrD (P : Program) (u : Option TypeDesc) (x i : AV) : Option AV :=
 match u, x, i with
 | some (.slice e), .sl xs, .v (.int _ i) => (idx xs.length i).bind fun k => (xs[k]?).bind fun a => if sizeT P e = some a.cells.length then some (.ea a 0) else none
 | some (.slice e), .mr j off len n _, .v (.int _ i) => (idx len i).bind fun k => if sizeT P e = some n then some (.ptr j (off + k * n)) else none
 | some (.array len e), .ptr j off, .v (.int _ i) => (idx len i).bind fun k => (sizeT P e).map fun n => .ptr j (off + k * n)
 | some (.array len e), .ea a off, .v (.int _ i) => (idx len i).bind fun k => (sizeT P e).map fun n => .ea a (off + k * n)
 | _, _, _ => none
@[go_sem] theorem indexAddr_D {t : TypeId} {x i : AV} : indexAddrA P t x i = indexAddrD P (P.underlying t) x i := rfl
def sizeD (a b : Option Nat) (x : AV) : Option AV := if a = b then some x else none
@[go_sem] theorem sizeD_same {n : Nat} {x : AV} : sizeD (some n) (some n) x = some x := by simp [sizeD]
@[go_sem] theorem indexAddrD_map {α : Type} [Inhabited α] {f : α → AV} {n : Nat} [hf : CellsN f n] {xs : List α} {el : TypeId} {i : Int} (h0 : 0 ≤ i) (h1 : i < xs.length) :
  indexAddrD P (some (.slice el)) (.sl (xs.map f)) (.v (.int k i)) = sizeD (sizeT P el) (some n) (.ea (f (ix xs i)) 0) := by
 have h2 : i.toNat < xs.length := by omega
 unfold indexAddrD sizeD
 simp only
 rw [idx_ok h0 (by simpa using h1)]
 simp [ix, h2, hf.h]
@[go_sem] theorem indexAddrD_mr {el : TypeId} {j off len n : Nat} {g : Bool} {i : Int} (h0 : 0 ≤ i) (h1 : i < len) : indexAddrD P (some (.slice el)) (.mr j off len n g) (.v (.int k i)) = sizeD (sizeT P el) (some n) (.ptr j (off + i.toNat * n)) := by
 unfold indexAddrD; simp only; rw [idx_ok h0 h1]; rfl
@[go_sem] theorem indexAddrD_ptr {len j off : Nat} {el : TypeId} {i : Int} (h0 : 0 ≤ i) (h1 : i < len) : indexAddrD P (some (.array len el)) (.ptr j off) (.v (.int k i)) = (sizeT P el).map fun n => .ptr j (off + i.toNat * n) := by
 unfold indexAddrD; simp only; rw [idx_ok h0 h1]; rfl
@[go_sem] theorem indexAddrD_ea {len off : Nat} {a : AV} {el : TypeId} {i : Int} (h0 : 0 ≤ i) (h1 : i < len) : indexAddrD P (some (.array len el)) (.ea a off) (.v (.int k i)) = (sizeT P el).map fun n => .ea a (off + i.toNat * n) := by
 unfold indexAddrD; simp only; rw [idx_ok h0 h1]; rfl
def partD (g : Option Bool) (s : Option Nat) (cs : List AV) (off : Nat) : Option AV :=
 match g, s with
 | some true, some n => if off + n ≤ cs.length then some (.agg ((cs.drop off).take n)) else none
 | some false, _ => cs[off]?
 | _, _ => none
@[go_sem] theorem partA_D {t : TypeId} {cs : List AV} {off : Nat} : partA P t cs off = partD (isAggT P t) (sizeT P t) cs off := rfl
@[go_sem] theorem partD_zero {s : Option Nat} {a : AV} {cs : List AV} : partD (some false) s (a :: cs) 0 = some a := rfl
@[go_sem] theorem partD_succ {s : Option Nat} {a : AV} {cs : List AV} {n : Nat} : partD (some false) s (a :: cs) (n + 1) = partD (some false) s cs n := rfl
@[go_sem] theorem partD_skip {m : Nat} {a : AV} {cs : List AV} {n : Nat} : partD (some true) (some m) (a :: cs) (n + 1) = partD (some true) (some m) cs n := by
 unfold partD; simp only [List.length_cons, List.drop_succ_cons]
 by_cases h : n + m ≤ cs.length
 ·rw [if_pos h, if_pos (by omega)]
 ·rw [if_neg h, if_neg (by omega)]
@[go_sem] theorem partD_all {n : Nat} {cs : List AV} : partD (some true) (some n) cs 0 = if n ≤ cs.length then some (.agg (cs.take n)) else none := by simp [partD]
@[go_sem] theorem loadA_ea {t : TypeId} {a : AV} {off : Nat} : loadA P H t (.ea a off) = partA P t a.cells off := rfl
def plainD (cs : List AV) (x : Option AV) : Option AV := if plainRow cs = true then x else none
theorem plainD_of {cs : List AV} {x : Option AV} (h : plainRow cs = true) : plainD cs x = x := if_pos h
@[go_sem] theorem plainD_nil {x : Option AV} : plainD [] x = x := rfl
@[go_sem] theorem plainD_two {a b : AV} {l : List AV} {x : Option AV} : plainD (a :: b :: l) x = x := plainD_of (by unfold plainRow; cases a <;> rfl)
@[go_sem] theorem plainD_v {y : Value} {x : Option AV} : plainD [.v y] x = x := rfl
@[go_sem] theorem plainD_str {l : List UInt8} {x : Option AV} : plainD [AV.str l] x = x := rfl
@[go_sem] theorem plainD_byte {b : UInt8} {x : Option AV} : plainD [byteA b] x = x := rfl
@[go_sem] theorem plainD_sl {l : List AV} {x : Option AV} : plainD [.sl l] x = x := rfl
@[go_sem] theorem plainD_ow {l : List AV} {j : Nat} {x : Option AV} : plainD [.ow l j] x = x := rfl
@[go_sem] theorem plainD_ptr {j off : Nat} {x : Option AV} : plainD [.ptr j off] x = x := rfl
@[go_sem] theorem plainD_ea {a : AV} {off : Nat} {x : Option AV} : plainD [.ea a off] x = x := rfl
@[go_sem] theorem plainD_mp {j : Nat} {x : Option AV} : plainD [.mp j] x = x := rfl
@[go_sem] theorem plainD_mr {j off len n : Nat} {g : Bool} {x : Option AV} : plainD [.mr j off len n g] x = x := rfl
@[go_sem] theorem plainD_fn {f : FuncId} {l : List AV} {x : Option AV} : plainD [.fn f l] x = x := rfl
@[go_sem] theorem loadA_ptr {t : TypeId} {j off : Nat} : loadA P H t (.ptr j off) = (H[j]?).bind fun cs => plainD cs (partA P t cs off) := rfl
@[go_sem] theorem cells_v {x : Value} : AV.cells (.v x) = [.v x] := rfl
@[go_sem] theorem cells_str {l : List UInt8} : AV.cells (AV.str l) = [AV.str l] := rfl
@[go_sem] theorem cells_byte {b : UInt8} : AV.cells (byteA b) = [byteA b] := rfl
@[go_sem] theorem cells_sl {xs : List AV} : AV.cells (.sl xs) = [.sl xs] := rfl
@[go_sem] theorem cells_agg {xs : List AV} : AV.cells (.agg xs) = xs := rfl
@[go_sem] theorem cells_ptr {j off : Nat} : AV.cells (.ptr j off) = [.ptr j off] := rfl
@[go_sem] theorem cells_fn {f : FuncId} {cs : List AV} : AV.cells (.fn f cs) = [.fn f cs] := rfl
def lenD (u : Option TypeDesc) (a : AV) : Option AV :=
 match u, a with
 | some .string, .v (.string s) => some (.i s.size)
 | some (.slice _), .sl xs => some (.i xs.length)
 | some (.slice _), .mr _ _ len _ _ => some (.i len)
 | some (.slice _), .v x => if isNilV x = true then some (.i 0) else none
 | _, _ => none
@[go_sem] theorem builtin_len {t : TypeId} {a : AV} : builtinA P .len [t] [a] = lenD (P.underlying t) a := by
 cases a with
 | v x =>
  show (match P.underlying t, x with | some .string, .string s => some (AV.i s.size) | some (.slice _), x => if isNilV x = true then some (AV.i 0) else none | _, _ => none) = _
  generalize P.underlying t = u
  cases u with
  | none => rfl
  | some u => cases u <;> first | rfl | (cases x <;> rfl)
 | sl xs => show (match P.underlying t with | some (.slice _) => some (AV.i xs.length) | _ => none) = _; generalize P.underlying t = u; cases u with | none => rfl | some u => cases u <;> rfl
 | mr j off len n g => show (match P.underlying t with | some (.slice _) => some (AV.i len) | _ => none) = _; generalize P.underlying t = u; cases u with | none => rfl | some u => cases u <;> rfl
 | _ => unfold lenD; simp [builtinA]
@[go_sem] theorem lenD_nilA {el : TypeId} : lenD (some (.slice el)) nilA = some (.v (.int .i64 0)) := rfl
@[go_sem] theorem lenD_str {l : List UInt8} : lenD (some .string) (AV.str l) = some (.v (.int .i64 l.length)) := rfl
@[go_sem] theorem lenD_map {α : Type} {f : α → AV} {xs : List α} {el : TypeId} : lenD (some (.slice el)) (.sl (xs.map f)) = some (.v (.int .i64 xs.length)) := by simp [lenD]
@[go_sem] theorem lenD_mr {el : TypeId} {j off len n : Nat} {g : Bool} : lenD (some (.slice el)) (.mr j off len n g) = some (.v (.int .i64 len)) := rfl
@[go_sem] theorem lenD_nil {el : TypeId} : lenD (some (.slice el)) (.sl []) = some (.v (.int .i64 0)) := by simp [lenD]
@[go_sem] theorem builtin_min {ts : List TypeId} {a b : AV} : builtinA P .min ts [a, b] = minA a b := rfl
@[go_sem] theorem builtin_max {ts : List TypeId} {a b : AV} : builtinA P .max ts [a, b] = maxA a b := rfl
end
end Go.Lv
set_option linter.unusedVariables false
set_option linter.unusedSimpArgs false
namespace Go.Lv
section
variable {P : Program} {e : Env} {H : Heap} {k k' : IntKind} {x y : Int}
def appendD (P : Program) (u v : Option TypeDesc) (a b : AV) : Option AV :=
 match u, v, a, b with
 | some (.slice e), some (.slice _), .sl xs, .sl ys =>
  match sizeT P e, bytesT P e, zeroA P e with
  | some n, some by_, some z => if 0 < n ∧ z.length = n ∧ (xs.length + ys.length) * (by_ + 1) ≤ 140737488355328 ∧ (∀ a ∈ xs, a.cells.length = n) ∧ (∀ a ∈ ys, a.cells.length = n) then some (.sl (xs ++ ys)) else none
  | _, _, _ => none
 | some (.slice e), some .string, .sl xs, .v (.string s) =>
  match sizeT P e, bytesT P e, zeroA P e with
  | some 1, some 1, some [_] => if (xs.length + s.size) * 2 ≤ 140737488355328 ∧ (∀ a ∈ xs, a.cells.length = 1) then some (.sl (xs ++ s.data.toList.map byteA)) else none
  | _, _, _ => none
 | _, _, _, _ => none
@[go_sem] theorem builtin_append_sl {t u : TypeId} {xs ys : List AV} : builtinA P .append [t, u] [.sl xs, .sl ys] = appendD P (P.underlying t) (P.underlying u) (.sl xs) (.sl ys) := by
 show (match P.underlying t, P.underlying u with
  | some (.slice e), some (.slice _) =>
   match sizeT P e, bytesT P e, zeroA P e with
   | some n, some by_, some z => if 0 < n ∧ z.length = n ∧ (xs.length + ys.length) * (by_ + 1) ≤ 140737488355328 ∧ (∀ a ∈ xs, a.cells.length = n) ∧ (∀ a ∈ ys, a.cells.length = n) then some (AV.sl (xs ++ ys)) else none
   | _, _, _ => none
  | _, _ => none) = _
 generalize P.underlying t = a; generalize P.underlying u = b
 cases a with
 | none => rfl
 | some a =>
  cases a with
  | slice el => cases b with
   | none => rfl
   | some b => cases b <;> rfl
  | _ => rfl
@[go_sem] theorem builtin_append_str {t u : TypeId} {xs : List AV} {l : List UInt8} : builtinA P .append [t, u] [.sl xs, AV.str l] = appendD P (P.underlying t) (P.underlying u) (.sl xs) (AV.str l) := by
 show (match P.underlying t, P.underlying u with
  | some (.slice e), some .string =>
   match sizeT P e, bytesT P e, zeroA P e with
   | some 1, some 1, some [_] => if (xs.length + l.length) * 2 ≤ 140737488355328 ∧ (∀ a ∈ xs, a.cells.length = 1) then some (AV.sl (xs ++ l.map byteA)) else none
   | _, _, _ => none
  | _, _ => none) = _
 generalize P.underlying t = a; generalize P.underlying u = b
 cases a with
 | none => rfl
 | some a =>
  cases a with
  | slice el => cases b with
   | none => rfl
   | some b => cases b <;> rfl
  | _ => rfl
def roomD (n : Nat) (s b : Option Nat) (z : Option (List AV)) (len : Int) (r : AV) : Option AV :=
 match s, b, z with
 | some m, some by_, some z => if m = n ∧ 0 < n ∧ z.length = n ∧ len * (by_ + 1) ≤ 140737488355328 then some r else none
 | _, _, _ => none
@[go_sem] theorem roomD_ok {n by_ : Nat} {z : List AV} {len : Int} {r : AV} (h0 : (0 : Int) < n) (h1 : (z.length : Int) = n) (h : len * (by_ + 1) ≤ 140737488355328) : roomD n (some n) (some by_) (some z) len r = some r := by
 have h2 : z.length = n := by omega
 have h3 : 0 < n := by omega
 unfold roomD
 simp only
 simp only [true_and]
 rw [if_pos ⟨h3, h2, h⟩]
def nD (n : Nat) (s : Option Nat) (a : Option AV) : Option AV := if s = some n then a else none
@[go_sem] theorem nD_same {n : Nat} {a : Option AV} : nD n (some n) a = a := by simp [nD]
theorem appendD_n {n : Nat} {xs ys : List AV} {el el' : TypeId} (hx : ∀ a ∈ xs, a.cells.length = n) (hy : ∀ a ∈ ys, a.cells.length = n) (h : sizeT P el = some n) :
  appendD P (some (.slice el)) (some (.slice el')) (.sl xs) (.sl ys) = roomD n (sizeT P el) (bytesT P el) (zeroA P el) (xs.length + ys.length) (.sl (xs ++ ys)) := by
 unfold appendD roomD
 simp only [h]
 cases bytesT P el with
 | none => rfl
 | some by_ =>
  cases zeroA P el with
  | none => rfl
  | some z =>
   have hc : ((xs.length : Int) + ys.length) * (by_ + 1) ≤ 140737488355328 ↔ (xs.length + ys.length) * (by_ + 1) ≤ 140737488355328 := by
    rw [show ((xs.length : Int) + ys.length) * (by_ + 1) = (((xs.length + ys.length) * (by_ + 1) : Nat) : Int) by push_cast; rfl]
    omega
   simp only [true_and, hc, show (∀ a ∈ xs, a.cells.length = n) ↔ True from iff_true_intro hx, show (∀ a ∈ ys, a.cells.length = n) ↔ True from iff_true_intro hy, and_true]
theorem map_cells {α : Type} {f : α → AV} {n : Nat} [hf : CellsN f n] (xs : List α) : ∀ a ∈ xs.map f, a.cells.length = n := by
 intro a ha
 obtain ⟨x, _, rfl⟩ := List.mem_map.1 ha
 exact hf.h x
class UndIs (P : Program) (t : TypeId) (d : outParam TypeDesc) : Prop where
 h : P.underlying t = some d
class SizeIs (P : Program) (t : TypeId) (n : outParam Nat) : Prop where
 h : sizeT P t = some n
class BytesIs (P : Program) (t : TypeId) (n : outParam Nat) : Prop where
 h : bytesT P t = some n
class ZeroIs (P : Program) (t : TypeId) (z : outParam (List AV)) : Prop where
 h : zeroA P t = some z
class AggIs (P : Program) (t : TypeId) (b : outParam Bool) : Prop where
 h : isAggT P t = some b
@[go_sem] theorem und_is {t : TypeId} {d : TypeDesc} [h : UndIs P t d] : P.underlying t = some d := h.h
@[go_sem] theorem size_is {t : TypeId} {n : Nat} [h : SizeIs P t n] : sizeT P t = some n := h.h
@[go_sem] theorem bytes_is {t : TypeId} {n : Nat} [h : BytesIs P t n] : bytesT P t = some n := h.h
@[go_sem] theorem zero_is {t : TypeId} {z : List AV} [h : ZeroIs P t z] : zeroA P t = some z := h.h
@[go_sem] theorem agg_is {t : TypeId} {b : Bool} [h : AggIs P t b] : isAggT P t = some b := h.h
class OneOK {α : Type} (f : α → AV) : Prop where
 h : ∀ x, (f x).cells.all AV.one = true
instance : OneOK (fun n : Int => AV.v (.int .i64 n)) := ⟨fun _ => rfl⟩
instance : OneOK (fun n : Bool => AV.v (.bool n)) := ⟨fun _ => rfl⟩
instance : OneOK AV.str := ⟨fun _ => rfl⟩
instance : OneOK byteA := ⟨fun _ => rfl⟩
instance : OneOK AV.bytes := ⟨fun _ => rfl⟩
@[go_sem] theorem append_map {α : Type} {f : α → AV} {n : Nat} [hf : CellsN f n] {xs ys : List α} {el el' : TypeId} [h : SizeIs P el n] :
  appendD P (some (.slice el)) (some (.slice el')) (.sl (xs.map f)) (.sl (ys.map f)) = roomD n (sizeT P el) (bytesT P el) (zeroA P el) (xs.length + ys.length) (.sl ((xs ++ ys).map f)) := by
 rw [appendD_n (map_cells xs) (map_cells ys) h.h]
 simp
@[go_sem] theorem append_one {α : Type} {f : α → AV} {n : Nat} [hf : CellsN f n] {xs : List α} {y : α} {el el' : TypeId} [h : SizeIs P el n] :
  appendD P (some (.slice el)) (some (.slice el')) (.sl (xs.map f)) (.sl [f y]) = roomD n (sizeT P el) (bytesT P el) (zeroA P el) (xs.length + 1) (.sl ((xs ++ [y]).map f)) := by
 have := append_map (P := P) (f := f) (xs := xs) (ys := [y]) (el := el) (el' := el')
 simpa using this
@[go_sem] theorem append_byte {xs : List UInt8} {n : Int} {el el' : TypeId} [h : SizeIs P el 1] (h0 : 0 ≤ n) (h1 : n < 256) :
  appendD P (some (.slice el)) (some (.slice el')) (.sl (xs.map byteA)) (.sl [.v (.int .u8 n)]) = roomD 1 (sizeT P el) (bytesT P el) (zeroA P el) (xs.length + 1) (.sl ((xs ++ [UInt8.ofNat n.toNat]).map byteA)) := by
 have hb : AV.v (.int .u8 n) = byteA (UInt8.ofNat n.toNat) := by
  have : (UInt8.ofNat n.toNat).toNat = n.toNat := by simp [UInt8.toNat_ofNat']; omega
  unfold byteA
  rw [this]
  congr; omega
 rw [hb]
 exact append_one
@[go_sem] theorem append_str {xs l : List UInt8} {el : TypeId} [h1 : SizeIs P el 1] [h2 : BytesIs P el 1] :
  appendD P (some (.slice el)) (some .string) (.sl (xs.map byteA)) (AV.str l) = roomD 1 (sizeT P el) (bytesT P el) (zeroA P el) (xs.length + l.length) (.sl ((xs ++ l).map byteA)) := by
 show (match sizeT P el, bytesT P el, zeroA P el with
   | some 1, some 1, some [_] => if ((xs.map byteA).length + l.length) * 2 ≤ 140737488355328 ∧ (∀ a ∈ xs.map byteA, a.cells.length = 1) then some (AV.sl (xs.map byteA ++ l.map byteA)) else none
   | _, _, _ => none) = _
 rw [h1.h, h2.h]
 simp only [show (∀ a ∈ xs.map byteA, a.cells.length = 1) ↔ True from iff_true_intro (map_cells xs), and_true, List.length_map, roomD, true_and, Nat.lt_add_one, Nat.zero_lt_one]
 cases zeroA P el with
 | none => rfl
 | some z =>
  cases z with
  | nil => simp
  | cons a z =>
   cases z with
   | nil =>
    have hc : ((xs.length : Int) + l.length) * (((1 : Nat) : Int) + 1) ≤ 140737488355328 ↔ (xs.length + l.length) * 2 ≤ 140737488355328 := by omega
    simp only [hc, List.length_singleton, true_and, List.map_append]
   | cons b z => simp
@[go_sem] theorem append_nil {α : Type} {f : α → AV} {n : Nat} [hf : CellsN f n] {ys : List α} {el el' : TypeId} [h : SizeIs P el n] :
  appendD P (some (.slice el)) (some (.slice el')) (.sl []) (.sl (ys.map f)) = roomD n (sizeT P el) (bytesT P el) (zeroA P el) ys.length (.sl (ys.map f)) := by
 have := append_map (P := P) (f := f) (xs := []) (ys := ys) (el := el) (el' := el')
 simpa using this
@[go_sem] theorem append_same {α : Type} {f : α → AV} {n : Nat} [hf : CellsN f n] {xs : List α} {el el' : TypeId} [h : SizeIs P el n] :
  appendD P (some (.slice el)) (some (.slice el')) (.sl (xs.map f)) (.sl []) = roomD n (sizeT P el) (bytesT P el) (zeroA P el) xs.length (.sl (xs.map f)) := by
 have := append_map (P := P) (f := f) (xs := xs) (ys := []) (el := el) (el' := el')
 simpa using this
def goodParts (n i len : Nat) : List (Nat × AV) → Bool
 | [] => i == len
 | (j, a) :: r => j == i && (a.cells.length == n && (a.cells.all AV.one && goodParts n (i + 1) len r))
def okD (c : Bool) (r : AV) : Option AV := bif c then some r else none
@[go_sem] theorem okD_true {r : AV} : okD true r = some r := rfl
theorem goodParts_ok {n len : Nat} : ∀ (l : List (Nat × AV)) (i : Nat), goodParts n i len l = true ↔ i + l.length = len ∧ l.map (·.1) = List.range' i l.length ∧ ∀ p ∈ l, p.2.cells.length = n ∧ p.2.cells.all AV.one = true := by
 intro l
 induction l with
 | nil => intro i; simp [goodParts]
 | cons p l ih =>
  intro i
  obtain ⟨j, a⟩ := p
  simp only [goodParts, Bool.and_eq_true, beq_iff_eq, ih, List.length_cons, List.map_cons, List.range'_succ, List.cons.injEq, List.forall_mem_cons]
  constructor
  ·rintro ⟨h1, h2, h3, h4, h5, h6⟩; exact ⟨by omega, ⟨h1, h5⟩, ⟨h2, h3⟩, h6⟩
  ·rintro ⟨h4, ⟨h1, h5⟩, ⟨h2, h3⟩, h6⟩; exact ⟨h1, h2, h3, by omega, h5, h6⟩
@[go_sem] theorem buildSlice_is {t el : TypeId} {n len : Nat} {z : List AV} [hu : UndIs P t (.slice el)] [hs : SizeIs P el n] [hz : ZeroIs P el z] {parts : List (Nat × AV)} (h0 : (0 : Int) < n) (hl : (len : Int) * n ≤ 65536) (hzl : (z.length : Int) = n) :
  buildSliceA P t len parts = okD (goodParts n 0 len parts) (.sl (parts.map (·.2))) := by
 have e1 : (elemOfT P t) = some el := by unfold elemOfT; rw [hu.h]
 unfold buildSliceA
 rw [e1]
 simp only [Option.bind_some, hs.h, hz.h, Option.map_some]
 have h1 : z.length = n := by omega
 have h2 : 0 < n := by omega
 have h3 : len * n ≤ 65536 := by
  have : ((len * n : Nat) : Int) ≤ 65536 := by push_cast; exact hl
  omega
 simp only [h1, h2, h3, true_and, and_true]
 unfold okD
 have h4 := goodParts_ok (n := n) (len := len) parts 0
 by_cases hg : goodParts n 0 len parts = true
 ·rw [hg]
  obtain ⟨h5, h6, h7⟩ := h4.1 hg
  rw [if_pos]; rfl
  refine ⟨?_, h7⟩
  rw [h6, List.range_eq_range']; congr 1; omega
 ·rw [if_neg]
  ·simp [hg]
  ·rintro ⟨h5, h7⟩
   refine hg (h4.2 ⟨?_, ?_, h7⟩)
   ·have := congrArg List.length h5
    simp at this; omega
   ·have := congrArg List.length h5
    simp at this
    rw [h5, this, List.range_eq_range']
def cellsOK (n : Nat) (a : AV) : Bool := a.cells.length == n && a.cells.all AV.one
@[go_sem] theorem goodParts_nil {n i len : Nat} : goodParts n i len [] = (i == len) := rfl
@[go_sem] theorem goodParts_cons {n i len j : Nat} {a : AV} {r : List (Nat × AV)} : goodParts n i len ((j, a) :: r) = (j == i && (cellsOK n a && goodParts n (i + 1) len r)) := by
 simp [goodParts, cellsOK, Bool.and_assoc]
@[go_sem] theorem cellsOK_v {x : Value} : cellsOK 1 (.v x) = true := rfl
@[go_sem] theorem cellsOK_str {l : List UInt8} : cellsOK 1 (AV.str l) = true := rfl
@[go_sem] theorem cellsOK_byte {b : UInt8} : cellsOK 1 (byteA b) = true := rfl
@[go_sem] theorem cellsOK_sl {xs : List AV} : cellsOK 1 (.sl xs) = true := rfl
@[go_sem] theorem cellsOK_fn {f : FuncId} {xs : List AV} : cellsOK 1 (.fn f xs) = true := rfl
@[go_sem] theorem cellsOK_ptr {j off : Nat} : cellsOK 1 (.ptr j off) = true := rfl
attribute [go_sem] Nat.sub_zero Nat.zero_add Nat.add_zero Nat.mul_one or_true Int.toNat_natCast Bool.not_true Bool.not_false List.take_length List.drop_zero Bool.or_false Bool.false_or Bool.or_true Bool.true_or beq_self_eq_true Bool.true_and Bool.and_true Bool.false_and Bool.and_false Nat.reduceAdd
@[go_sem] theorem bound_none {n d : Nat} : bound n none d = some d := rfl
@[go_sem] theorem bound_some {n d : Nat} {i : Int} (h0 : 0 ≤ i) (h1 : i ≤ n) : bound n (some (.v (.int k i))) d = some i.toNat := by simp [bound, h0, h1]
@[go_sem] theorem slice_str {t : TypeId} {l : List UInt8} {lo hi : Option AV} [hu : UndIs P t .string] :
  sliceA P t (AV.str l) lo hi none = (bound l.length hi l.length).bind fun h => (bound h lo 0).bind fun b => some (AV.str ((l.take h).drop b)) := by
 unfold sliceA
 rw [hu.h]
 show ((bound l.length hi l.length).bind fun h => (bound h lo 0).bind fun b => some (AV.s ((⟨⟨l⟩⟩ : ByteArray).extract b h))) = _
 congr 1; funext h; congr 1; funext b
 have hx : ∀ x y : ByteArray, x.data.toList = y.data.toList → x = y := by
  intro x y h; cases x; cases y; rename_i a b; cases a; cases b; simpa using h
 have : (⟨⟨l⟩⟩ : ByteArray).extract b h = ⟨⟨(l.take h).drop b⟩⟩ := hx _ _ (by simp [List.extract_eq_take_drop, List.drop_take])
 rw [this]; rfl
@[go_sem] theorem slice_map {α : Type} {f : α → AV} {n : Nat} [hf : CellsN f n] {t el : TypeId} [hu : UndIs P t (.slice el)] [hs : SizeIs P el n] {xs : List α} {lo hi : Option AV} (hn : (0 : Int) < n) :
  sliceA P t (.sl (xs.map f)) lo hi none = (bound xs.length hi xs.length).bind fun h => (bound h lo 0).bind fun b => some (.sl (((xs.take h).drop b).map f)) := by
 unfold sliceA
 rw [hu.h]
 simp only [hs.h, Option.bind_some]
 rw [if_pos ⟨by omega, map_cells xs⟩]
 simp
attribute [go_sem] Option.bind_some
@[go_sem] theorem bin_byte1 {op : BinOp} {t : TypeId} {b : UInt8} {a : AV} : bin P op t (byteA b) a = bin P op t (.v (.int .u8 b.toNat)) a := rfl
@[go_sem] theorem bin_byte2 {op : BinOp} {t : TypeId} {b : UInt8} {v : Value} : bin P op t (.v v) (byteA b) = bin P op t (.v v) (.v (.int .u8 b.toNat)) := rfl
@[go_sem] theorem convD_byte {u v : Option TypeDesc} {b : UInt8} : convD P u v (byteA b) = convD P u v (.v (.int .u8 b.toNat)) := rfl
@[go_sem] theorem minA_byte {a b : UInt8} : minA (byteA a) (byteA b) = minA (.v (.int .u8 a.toNat)) (.v (.int .u8 b.toNat)) := rfl
@[go_sem] theorem viewR_sl {t : TypeId} {xs : List AV} : viewR P H t (.sl xs) = .sl xs := rfl
@[go_sem] theorem viewR_ow {t : TypeId} {xs : List AV} {j : Nat} : viewR P H t (.ow xs j) = .sl xs := rfl
@[go_sem] theorem viewR_bytes {t : TypeId} {l : List UInt8} : viewR P H t (AV.bytes l) = .sl (l.map byteA) := rfl
@[go_sem] theorem viewR_nilA {t : TypeId} : viewR P H t nilA = .sl [] := rfl
@[go_sem] theorem viewR_str {t : TypeId} {l : List UInt8} : viewR P H t (AV.str l) = AV.str l := rfl
@[go_sem] theorem env0_zero {a : AV} {l : List AV} : env0 (a :: l) 0 = a := rfl
@[go_sem] theorem env0_succ {a : AV} {l : List AV} {n : Nat} : env0 (a :: l) (n + 1) = env0 l n := rfl
end
attribute [go_sem] and_self and_true true_and reduceIte Nat.reduceEqDiff Nat.reduceMul Nat.reduceSub Nat.reduceBEq Int.reduceNeg Int.reduceAdd Int.reduceSub Int.reduceMul Int.reduceToNat Int.reduceLT Int.reduceLE Int.reduceEq Int.reduceNe Int.reducePow Nat.reducePow Nat.reduceLT reduceCtorEq
end Go.Lv
set_option linter.unusedVariables false
set_option linter.unusedSimpArgs false
namespace Go.Lv
section
variable {P : Program} {H : Heap}
class FieldIs (P : Program) (t : TypeId) (f : Nat) (ft : outParam TypeId) (o : outParam Nat) (n : outParam Nat) : Prop where
 h : ∃ fs fd, P.underlying t = some (.struct fs) ∧ fs[f]? = some fd ∧ fd.type = ft ∧ fd.offset = o ∧ sizeT P ft = some n ∧ n ≠ 0
class PartsIs (P : Program) (t : TypeId) (offs : outParam (List (Nat × Nat))) : Prop where
 h : ∃ fs, P.underlying t = some (.struct fs) ∧ (fs.toList.mapM fun f => (sizeT P f.type).map fun n => (f.offset, n)) = some offs
@[go_sem] theorem fieldAddr_ptr {t ft : TypeId} {f o n j off : Nat} [h : FieldIs P t f ft o n] : fieldAddrA P t (.ptr j off) f = some (.ptr j (off + o)) := by
 obtain ⟨fs, fd, h1, h2, h3, h4, h5, h6⟩ := h.h
 unfold fieldAddrA
 rw [h1]
 simp only [h2, Option.bind_some, h3, h5, h4]
 rw [if_neg h6]
@[go_sem] theorem fieldAddr_ea {t ft : TypeId} {f o n off : Nat} {e : AV} [h : FieldIs P t f ft o n] : fieldAddrA P t (.ea e off) f = some (.ea e (off + o)) := by
 obtain ⟨fs, fd, h1, h2, h3, h4, h5, h6⟩ := h.h
 unfold fieldAddrA
 rw [h1]
 simp only [h2, Option.bind_some, h3, h5, h4]
 rw [if_neg h6]
@[go_sem] theorem field_agg {t ft : TypeId} {f o n : Nat} {cs : List AV} [h : FieldIs P t f ft o n] : fieldA P t (.agg cs) f = partA P ft cs o := by
 obtain ⟨fs, fd, h1, h2, h3, h4, h5, h6⟩ := h.h
 unfold fieldA
 rw [h1]
 simp only [h2, Option.bind_some, h3, h4]
def fillD (offs : List (Nat × Nat)) (cells : List AV) : List (Nat × AV) → Option (List AV)
 | [] => some cells
 | (i, a) :: rest =>
  match offs[i]? with
  | none => none
  | some (off, size) =>
   if a.cells.length = size ∧ a.cells.all AV.one = true ∧ off + size ≤ cells.length then fillD offs (cells.take off ++ a.cells ++ cells.drop (off + size)) rest else none
theorem fillD_cons {offs : List (Nat × Nat)} {cells : List AV} {i : Nat} {a : AV} {rest : List (Nat × AV)} : fillD offs cells ((i, a) :: rest) = match offs[i]? with
  | none => none
  | some (off, size) =>
   if a.cells.length = size ∧ a.cells.all AV.one = true ∧ off + size ≤ cells.length then fillD offs (cells.take off ++ a.cells ++ cells.drop (off + size)) rest else none := rfl
theorem mapM_get {α β : Type} {g : α → Option β} : ∀ {l : List α} {m : List β}, l.mapM g = some m → ∀ i : Nat, (l[i]?).bind g = m[i]? := by
 intro l
 induction l with
 | nil => intro m h i; simp at h; subst h; simp
 | cons a l ih =>
  intro m h i
  rw [List.mapM_cons] at h
  obtain ⟨b, hb, h⟩ := xoB.1 h
  obtain ⟨m', hm, h⟩ := xoB.1 h
  injection h with h; subst h
  cases i with
  | zero => simpa using hb
  | succ i => simpa using ih hm i
theorem fillA_D {place : Nat → Option (Nat × Nat)} {offs : List (Nat × Nat)} (h : ∀ i, place i = offs[i]?) : ∀ (parts : List (Nat × AV)) (cells : List AV), fillA place cells parts = fillD offs cells parts := by
 intro parts
 induction parts with
 | nil => intro cells; rfl
 | cons p parts ih =>
  intro cells
  obtain ⟨i, a⟩ := p
  unfold fillA fillD
  rw [h i]
  cases offs[i]? with
  | none => rfl
  | some q =>
   simp only
   split
   ·exact ih _
   ·rfl
@[go_sem] theorem build_D {t : TypeId} {offs : List (Nat × Nat)} {z : List AV} {parts : List (Nat × AV)} [hp : PartsIs P t offs] [hz : ZeroIs P t z] : buildA P t parts = (fillD offs z parts).map .agg := by
 obtain ⟨fs, h1, h2⟩ := hp.h
 have hs : ∃ l, (fs.toList.mapM fun f => sizeT P f.type) = some l := by
  have : ∀ (l : List Field) (m : List (Nat × Nat)), (l.mapM fun f => (sizeT P f.type).map fun n => (f.offset, n)) = some m → ∃ l', (l.mapM fun f => sizeT P f.type) = some l' := by
   intro l
   induction l with
   | nil => intro m _; exact ⟨[], rfl⟩
   | cons a l ih =>
    intro m h
    rw [List.mapM_cons] at h
    obtain ⟨b, hb, h⟩ := xoB.1 h
    obtain ⟨m', hm, h⟩ := xoB.1 h
    obtain ⟨l', hl'⟩ := ih _ hm
    obtain ⟨n, hn, _⟩ := xoM.1 hb
    exact ⟨n :: l', by rw [List.mapM_cons, hn, hl']; rfl⟩
  exact this _ _ h2
 obtain ⟨l, hl⟩ := hs
 unfold buildA
 rw [h1, hz.h]
 simp only [hl, Option.bind_some]
 rw [fillA_D (offs := offs)]
 intro i
 have := mapM_get h2 i
 rw [← this]
 simp [Array.getElem?_toList]
@[go_sem] theorem fillD_nil {offs : List (Nat × Nat)} {cells : List AV} : fillD offs cells [] = some cells := rfl
theorem fillD_one {offs : List (Nat × Nat)} {cells : List AV} {i o : Nat} {a : AV} {rest : List (Nat × AV)} (hi : offs[i]? = some (o, 1)) (ho : o < cells.length) (hc : a.cells = [a]) (h1 : a.one = true) :
  fillD offs cells ((i, a) :: rest) = fillD offs (cells.set o a) rest := by
 have e : cells.take o ++ [a] ++ cells.drop (o + 1) = cells.set o a := by rw [List.set_eq_take_append_cons_drop, if_pos ho, List.append_assoc, List.singleton_append]
 rw [fillD_cons, hi]
 simp only [hc, List.length_singleton, List.all_cons, h1, List.all_nil, Bool.and_true]
 rw [if_pos ⟨trivial, trivial, by omega⟩, e]
section
variable {offs : List (Nat × Nat)} {cells : List AV} {i o : Nat} {rest : List (Nat × AV)}
def partD1 (offs : List (Nat × Nat)) (cells : List AV) (i : Nat) (a : AV) (rest : List (Nat × AV)) : Option (List AV) :=
 match offs[i]? with
 | some (o, 1) => if o < cells.length then fillD offs (cells.set o a) rest else none
 | _ => none
theorem fillD_part {a : AV} (hc : a.cells = [a]) (h1 : a.one = true) : fillD offs cells ((i, a) :: rest) = partD1 offs cells i a rest := by
 unfold partD1
 cases hi : offs[i]? with
 | none => unfold fillD; rw [hi]
 | some q =>
  obtain ⟨o, n⟩ := q
  by_cases hn : n = 1
  ·subst hn
   simp only
   by_cases ho : o < cells.length
   ·rw [if_pos ho]; exact fillD_one hi ho hc h1
   ·rw [if_neg ho]
    unfold fillD
    rw [hi]
    simp only [hc]
    rw [if_neg]
    rintro ⟨_, _, h⟩
    omega
  ·have : fillD offs cells ((i, a) :: rest) = none := by
    unfold fillD
    rw [hi]
    simp only [hc]
    rw [if_neg]
    rintro ⟨h, _⟩
    exact hn (by simpa using h.symm)
   rw [this]
   split
   ·rename_i h; injection h with h; injection h with h1 h2; exact absurd h2 hn
   ·rfl
@[go_sem] theorem fillD_v {y : Value} : fillD offs cells ((i, .v y) :: rest) = partD1 offs cells i (.v y) rest := fillD_part rfl rfl
@[go_sem] theorem fillD_str {l : List UInt8} : fillD offs cells ((i, AV.str l) :: rest) = partD1 offs cells i (AV.str l) rest := fillD_part rfl rfl
@[go_sem] theorem fillD_bytes {l : List UInt8} : fillD offs cells ((i, AV.bytes l) :: rest) = partD1 offs cells i (AV.bytes l) rest := fillD_part rfl rfl
@[go_sem] theorem fillD_sl {l : List AV} : fillD offs cells ((i, .sl l) :: rest) = partD1 offs cells i (.sl l) rest := fillD_part rfl rfl
@[go_sem] theorem fillD_ow {l : List AV} {j : Nat} : fillD offs cells ((i, .ow l j) :: rest) = partD1 offs cells i (.ow l j) rest := fillD_part rfl rfl
@[go_sem] theorem fillD_ptr {j f : Nat} : fillD offs cells ((i, .ptr j f) :: rest) = partD1 offs cells i (.ptr j f) rest := fillD_part rfl rfl
@[go_sem] theorem fillD_nilA : fillD offs cells ((i, nilA) :: rest) = partD1 offs cells i nilA rest := fillD_part rfl rfl
@[go_sem] theorem fillD_mp {j : Nat} : fillD offs cells ((i, .mp j) :: rest) = partD1 offs cells i (.mp j) rest := fillD_part rfl rfl
end
end
section
variable {P : Program} {e : Env} {H : Heap} {i : Nat} {a : AV} {H' : Heap} {all : K (Array Oper)} {Q : Seen → Prop} {sn : List (Nat × Heap)} {x : Nat × TypeId × AV × AV} {ls : List (Nat × TypeId × AV × AV)} {s : Nat × Heap}
def loadSame (r : Option AV) (a : AV) (q : Prop) : Prop := q ∨ r = some a
@[go_sem] theorem loadSame_ok {a : AV} {q : Prop} : loadSame (some a) a q = True := by simp [loadSame]
def LoadOK1 (P : Program) (all : Array Oper) (i : Nat) (H' : Heap) (x : Nat × TypeId × AV × AV) : Prop := reachE all 8 i x.1 = true ∨ loadA P H' x.2.1 x.2.2.1 = some x.2.2.2
@[go_sem] theorem LoadOK1_D {al : Array Oper} {k : Nat} {t : TypeId} {p v : AV} : LoadOK1 P al i H' (k, t, p, v) = loadSame (loadA P H' t p) v (reachE al 8 i k = true) := rfl
@[go_sem] theorem LoadsOK_nil {al : Array Oper} : LoadsOK P al i H' [] = True := by simp [LoadsOK]
@[go_sem] theorem LoadsOK_cons {al : Array Oper} : LoadsOK P al i H' (x :: ls) = (LoadOK1 P al i H' x ∧ LoadsOK P al i H' ls) := by simp [LoadsOK, LoadOK1]
attribute [go_sem] true_and
theorem seenR_effI {o : Op} (h1 : ∀ t p, o ≠ .load t p) (h2 : effOp o = true) : @seenR P i e { snaps := sn, loads := ls } a H H' o all ⟨Q⟩ = (LoadsOK P all.v i H' ls ∧ Q { snaps := (i, H) :: sn, loads := ls }) := by
 unfold seenR
 by_cases h : LoadsOK P all.v i H' ls
 ·have : seenOK P all.v i e { snaps := sn, loads := ls } o a H H' = some { snaps := (i, H) :: sn, loads := ls } := by
   unfold seenOK
   split
   ·exact absurd rfl (h1 _ _)
   ·cases h2
   ·rw [if_pos h2, if_pos (fun l hl => h l hl)]
  rw [this, bindP_some]
  exact propext ⟨fun q => ⟨h, q⟩, fun q => q.2⟩
 ·have : seenOK P all.v i e { snaps := sn, loads := ls } o a H H' = none := by
   unfold seenOK
   split
   ·exact absurd rfl (h1 _ _)
   ·cases h2
   ·rw [if_pos h2, if_neg (fun hl => h (fun l hm => hl l hm))]
  rw [this]
  refine propext ⟨fun q => ?_, fun q => absurd q.1 h⟩
  obtain ⟨_, hh, _⟩ := q
  cases hh
section
@[go_sem] theorem seenR_assignL {x' : Operand} : @seenR P i e { snaps := sn, loads := x :: ls } a H H' (.assign x') all ⟨Q⟩ = (LoadsOK P all.v i H' (x :: ls) ∧ Q { snaps := (i, H) :: sn, loads := x :: ls }) := seenR_effI (by simp) rfl
@[go_sem] theorem seenR_allocL {t : TypeId} : @seenR P i e { snaps := sn, loads := x :: ls } a H H' (.alloc t) all ⟨Q⟩ = (LoadsOK P all.v i H' (x :: ls) ∧ Q { snaps := (i, H) :: sn, loads := x :: ls }) := seenR_effI (by simp) rfl
@[go_sem] theorem seenR_boxL {t : TypeId} {y : Operand} : @seenR P i e { snaps := sn, loads := x :: ls } a H H' (.box t y) all ⟨Q⟩ = (LoadsOK P all.v i H' (x :: ls) ∧ Q { snaps := (i, H) :: sn, loads := x :: ls }) := seenR_effI (by simp) rfl
@[go_sem] theorem seenR_storeL {t : TypeId} {x' y : Operand} : @seenR P i e { snaps := sn, loads := x :: ls } a H H' (.store t x' y) all ⟨Q⟩ = (LoadsOK P all.v i H' (x :: ls) ∧ Q { snaps := (i, H) :: sn, loads := x :: ls }) := seenR_effI (by simp) rfl
@[go_sem] theorem seenR_buildSliceL {t n : Nat} {ps : Array (Nat × Operand)} : @seenR P i e { snaps := sn, loads := x :: ls } a H H' (.buildSlice t n ps) all ⟨Q⟩ = (LoadsOK P all.v i H' (x :: ls) ∧ Q { snaps := (i, H) :: sn, loads := x :: ls }) := seenR_effI (by simp) rfl
@[go_sem] theorem seenR_appendL {x' : Array Operand} {ts : Array TypeId} : @seenR P i e { snaps := sn, loads := x :: ls } a H H' (.call { callee := .builtin .append, args := x', argTypes := ts }) all ⟨Q⟩ = (LoadsOK P all.v i H' (x :: ls) ∧ Q { snaps := (i, H) :: sn, loads := x :: ls }) := seenR_effI (by simp) rfl
@[go_sem] theorem seenR_callL {f : Operand} {x' : Array Operand} {ts : Array TypeId} : @seenR P i e { snaps := sn, loads := x :: ls } a H H' (.call { callee := .value f, args := x', argTypes := ts }) all ⟨Q⟩ = (LoadsOK P all.v i H' (x :: ls) ∧ Q { snaps := (i, H) :: sn, loads := x :: ls }) := seenR_effI (by simp) rfl
@[go_sem] theorem seenR_makeMapL {t : TypeId} {r : Option Operand} : @seenR P i e { snaps := sn, loads := x :: ls } a H H' (.makeMap t r) all ⟨Q⟩ = (LoadsOK P all.v i H' (x :: ls) ∧ Q { snaps := (i, H) :: sn, loads := x :: ls }) := seenR_effI (by simp) rfl
@[go_sem] theorem seenR_lookupL {t : TypeId} {x' y : Operand} {c : Bool} : @seenR P i e { snaps := sn, loads := x :: ls } a H H' (.lookup t x' y c) all ⟨Q⟩ = (LoadsOK P all.v i H' (x :: ls) ∧ Q { snaps := (i, H) :: sn, loads := x :: ls }) := seenR_effI (by simp) rfl
@[go_sem] theorem seenR_mapUpdateL {t : TypeId} {x' y z : Operand} : @seenR P i e { snaps := sn, loads := x :: ls } a H H' (.mapUpdate t x' y z) all ⟨Q⟩ = (LoadsOK P all.v i H' (x :: ls) ∧ Q { snaps := (i, H) :: sn, loads := x :: ls }) := seenR_effI (by simp) rfl
@[go_sem] theorem seenR_insertL {t : TypeId} {x' y z : Operand} : @seenR P i e { snaps := sn, loads := x :: ls } a H H' (.insert t x' y z) all ⟨Q⟩ = (LoadsOK P all.v i H' (x :: ls) ∧ Q { snaps := (i, H) :: sn, loads := x :: ls }) := seenR_effI (by simp) rfl
@[go_sem] theorem seenR_deleteL {x' : Array Operand} {ts : Array TypeId} : @seenR P i e { snaps := sn, loads := x :: ls } a H H' (.call { callee := .builtin .delete, args := x', argTypes := ts }) all ⟨Q⟩ = (LoadsOK P all.v i H' (x :: ls) ∧ Q { snaps := (i, H) :: sn, loads := x :: ls }) := seenR_effI (by simp) rfl
end
def SnapsOK (P : Program) (all : Array Oper) (i : Nat) (t : TypeId) (p a : AV) (l : List (Nat × Heap)) : Prop := ∀ s ∈ l, reachL all i s.1 = true ∨ loadA P s.2 t p = some a
def SnapOK1 (P : Program) (all : Array Oper) (i : Nat) (t : TypeId) (p a : AV) (s : Nat × Heap) : Prop := reachL all i s.1 = true ∨ loadA P s.2 t p = some a
@[go_sem] theorem SnapOK1_D {al : Array Oper} {k : Nat} {t : TypeId} {p v : AV} : SnapOK1 P al i t p v (k, H') = loadSame (loadA P H' t p) v (reachL al i k = true) := rfl
@[go_sem] theorem SnapsOK_nil {al : Array Oper} {t : TypeId} {p : AV} : SnapsOK P al i t p a [] = True := by simp [SnapsOK]
@[go_sem] theorem SnapsOK_cons {al : Array Oper} {t : TypeId} {p : AV} : SnapsOK P al i t p a (s :: sn) = (SnapOK1 P al i t p a s ∧ SnapsOK P al i t p a sn) := by simp [SnapsOK, SnapOK1]
@[go_sem] theorem seenS_nilA {al : Array Oper} {t : TypeId} {S : Seen} : @seenS P al i t nilA S H ⟨Q⟩ = Q S := rfl
@[go_sem] theorem seenS_bytes {al : Array Oper} {t : TypeId} {S : Seen} {x : List UInt8} : @seenS P al i t (AV.bytes x) S H ⟨Q⟩ = Q S := rfl
@[go_sem] theorem seenS_str {al : Array Oper} {t : TypeId} {x : List UInt8} {S : Seen} : @seenS P al i t (AV.str x) S H ⟨Q⟩ = Q S := rfl
@[go_sem] theorem seenS_ptr {al : Array Oper} {t : TypeId} {j off : Nat} : @seenS P al i t (.ptr j off) { snaps := sn, loads := ls } H ⟨Q⟩ = @bindP _ (loadA P H t (.ptr j off)) ⟨fun r => SnapsOK P al i t (.ptr j off) r sn ∧ Q { snaps := sn, loads := (i, t, .ptr j off, r) :: ls }⟩ := rfl
@[go_sem] theorem seenR_loadL {t : TypeId} {p : Operand} : @seenR P i e { snaps := s :: sn, loads := ls } a H H' (.load t p) all ⟨Q⟩ = (SnapsOK P all.v i t (ev e p) a (s :: sn) ∧ Q { snaps := s :: sn, loads := (i, t, ev e p, a) :: ls }) := by
 unfold seenR
 by_cases h : SnapsOK P all.v i t (ev e p) a (s :: sn)
 ·have : seenOK P all.v i e { snaps := s :: sn, loads := ls } (.load t p) a H H' = some { snaps := s :: sn, loads := (i, t, ev e p, a) :: ls } := by
   unfold seenOK
   simp only
   rw [if_pos (fun l hl => h l hl)]
  rw [this, bindP_some]
  exact propext ⟨fun q => ⟨h, q⟩, fun q => q.2⟩
 ·have : seenOK P all.v i e { snaps := s :: sn, loads := ls } (.load t p) a H H' = none := by
   unfold seenOK
   simp only
   rw [if_neg (fun hl => h (fun l hm => hl l hm))]
  rw [this]
  refine propext ⟨fun q => ?_, fun q => absurd q.1 h⟩
  obtain ⟨_, hh, _⟩ := q
  cases hh
end
section
variable {a1 a2 a3 a4 a5 a6 a7 a8 a9 : AV}
@[go_sem] theorem take_2 : (if 2 ≤ ([a1, a2] : List AV).length then some (AV.agg (List.take 2 [a1, a2])) else none) = some (.agg [a1, a2]) := rfl
@[go_sem] theorem take_3 : (if 3 ≤ ([a1, a2, a3] : List AV).length then some (AV.agg (List.take 3 [a1, a2, a3])) else none) = some (.agg [a1, a2, a3]) := rfl
@[go_sem] theorem take_4 : (if 4 ≤ ([a1, a2, a3, a4] : List AV).length then some (AV.agg (List.take 4 [a1, a2, a3, a4])) else none) = some (.agg [a1, a2, a3, a4]) := rfl
@[go_sem] theorem take_5 : (if 5 ≤ ([a1, a2, a3, a4, a5] : List AV).length then some (AV.agg (List.take 5 [a1, a2, a3, a4, a5])) else none) = some (.agg [a1, a2, a3, a4, a5]) := rfl
@[go_sem] theorem take_6 : (if 6 ≤ ([a1, a2, a3, a4, a5, a6] : List AV).length then some (AV.agg (List.take 6 [a1, a2, a3, a4, a5, a6])) else none) = some (.agg [a1, a2, a3, a4, a5, a6]) := rfl
@[go_sem] theorem take_7 : (if 7 ≤ ([a1, a2, a3, a4, a5, a6, a7] : List AV).length then some (AV.agg (List.take 7 [a1, a2, a3, a4, a5, a6, a7])) else none) = some (.agg [a1, a2, a3, a4, a5, a6, a7]) := rfl
@[go_sem] theorem take_8 : (if 8 ≤ ([a1, a2, a3, a4, a5, a6, a7, a8] : List AV).length then some (AV.agg (List.take 8 [a1, a2, a3, a4, a5, a6, a7, a8])) else none) = some (.agg [a1, a2, a3, a4, a5, a6, a7, a8]) := rfl
@[go_sem] theorem take_9 : (if 9 ≤ ([a1, a2, a3, a4, a5, a6, a7, a8, a9] : List AV).length then some (AV.agg (List.take 9 [a1, a2, a3, a4, a5, a6, a7, a8, a9])) else none) = some (.agg [a1, a2, a3, a4, a5, a6, a7, a8, a9]) := rfl
end
@[go_sem] theorem resV_ct {P : Program} {a t u : Nat} {e : Env} {H : Heap} : resV P #[.cell a t, .tmp u] e H = (loadA P H t (e a)).map fun x => .tup [x, e u] := by
 cases h : loadA P H t (e a) <;> simp [resV, resA, h]
@[go_sem] theorem option_map_some {α β : Type} {x : α} {f : α → β} : Option.map f (some x) = some (f x) := rfl
def oneD {α : Type} (l : List AV) (r : α) : Option α := if l.all AV.one = true then some r else none
section
variable {α : Type} {l : List AV} {r : α}
theorem oneD_fold : (if l.all AV.one = true then some r else none) = oneD l r := rfl
@[go_sem] theorem oneD_nil : oneD [] r = some r := rfl
theorem oneD_cons {a : AV} (h : a.one = true) : oneD (a :: l) r = oneD l r := by unfold oneD; rw [List.all_cons, h, Bool.true_and]
@[go_sem] theorem oneD_v {y : Value} : oneD (.v y :: l) r = oneD l r := oneD_cons rfl
@[go_sem] theorem oneD_str {s : List UInt8} : oneD (AV.str s :: l) r = oneD l r := oneD_cons rfl
@[go_sem] theorem oneD_bytes {s : List UInt8} : oneD (AV.bytes s :: l) r = oneD l r := oneD_cons rfl
@[go_sem] theorem oneD_sl {s : List AV} : oneD (.sl s :: l) r = oneD l r := oneD_cons rfl
@[go_sem] theorem oneD_ow {s : List AV} {j : Nat} : oneD (.ow s j :: l) r = oneD l r := oneD_cons rfl
@[go_sem] theorem oneD_ptr {j o : Nat} : oneD (.ptr j o :: l) r = oneD l r := oneD_cons rfl
@[go_sem] theorem oneD_nilA : oneD (nilA :: l) r = oneD l r := oneD_cons rfl
@[go_sem] theorem oneD_mp {j : Nat} : oneD (.mp j :: l) r = oneD l r := oneD_cons rfl
end
section
variable {P : Program} {H : Heap} {t : TypeId} {j off i : Nat} {a x : AV} {cs ds : List AV}
def storeC (P : Program) (t : TypeId) (H : Heap) (j off : Nat) (a : AV) (cs : List AV) : Option Heap :=
 (sizeT P t).bind fun n => if a.cells.length = n ∧ a.cells.all AV.one = true ∧ off + n ≤ cs.length ∧ 0 < n ∧ plainRow cs = true then some (H.set j (cs.take off ++ a.cells ++ cs.drop (off + n))) else none
theorem store_ptr : storeA P H t (.ptr j off) a = (H[j]?).bind (storeC P t H j off a) := by
 unfold storeA storeC
 cases h : sizeT P t with
 | none => cases H[j]? <;> rfl
 | some n => rfl
theorem storeC_one [hs : SizeIs P t 1] (hc : a.cells = [a]) (h1 : a.one = true) : storeC P t H j off a cs = if off < cs.length then (if plainRow cs = true then some (H.set j (cs.set off a)) else none) else none := by
 unfold storeC
 simp only [hs.h, Option.bind_some, hc]
 by_cases ho : off < cs.length
 ·rw [if_pos ho]
  by_cases hp : plainRow cs = true
  ·have e : cs.take off ++ [a] ++ cs.drop (off + 1) = cs.set off a := by rw [List.set_eq_take_append_cons_drop, if_pos ho, List.append_assoc, List.singleton_append]
   rw [if_pos hp, if_pos ⟨rfl, by simp [h1], by omega, by omega, hp⟩, e]
  ·rw [if_neg hp, if_neg (fun h => hp h.2.2.2.2)]
 ·rw [if_neg ho, if_neg (fun h => by omega)]
def storeS (H : Heap) (j off : Nat) (a : AV) (cs : List AV) : Option Heap := if off < cs.length then (if plainRow cs = true then some (H.set j (cs.set off a)) else none) else none
@[go_sem] theorem storeC_v {y : Value} [hs : SizeIs P t 1] : storeC P t H j off (.v y) cs = storeS H j off (.v y) cs := storeC_one rfl rfl
@[go_sem] theorem storeC_str {l : List UInt8} [hs : SizeIs P t 1] : storeC P t H j off (AV.str l) cs = storeS H j off (AV.str l) cs := storeC_one rfl rfl
@[go_sem] theorem storeC_sl {l : List AV} [hs : SizeIs P t 1] : storeC P t H j off (.sl l) cs = storeS H j off (.sl l) cs := storeC_one rfl rfl
@[go_sem] theorem storeC_ow {l : List AV} {k : Nat} [hs : SizeIs P t 1] : storeC P t H j off (.ow l k) cs = storeS H j off (.ow l k) cs := storeC_one rfl rfl
@[go_sem] theorem storeC_ptr {k o : Nat} [hs : SizeIs P t 1] : storeC P t H j off (.ptr k o) cs = storeS H j off (.ptr k o) cs := storeC_one rfl rfl
@[go_sem] theorem storeC_nilA [hs : SizeIs P t 1] : storeC P t H j off nilA cs = storeS H j off nilA cs := storeC_one rfl rfl
@[go_sem] theorem storeC_mp {k : Nat} [hs : SizeIs P t 1] : storeC P t H j off (.mp k) cs = storeS H j off (.mp k) cs := storeC_one rfl rfl
theorem storeC_A {n : Nat} {xs : List AV} [hs : SizeIs P t n] : storeC P t H j 0 (.agg xs) cs = if xs.length = n ∧ xs.all AV.one = true ∧ 0 + n ≤ cs.length ∧ 0 < n ∧ plainRow cs = true then some (H.set j (cs.take 0 ++ xs ++ cs.drop (0 + n))) else none := by
 unfold storeC
 rw [hs.h]
 rfl
def storeG (H : Heap) (j : Nat) (xs cs : List AV) : Option Heap := if xs.all AV.one = true ∧ plainRow cs = true then some (H.set j xs) else none
theorem storeC_G {n : Nat} {xs : List AV} [hs : SizeIs P t n] (h0 : 0 < n) (hx : xs.length = n) (hc : cs.length = n) : storeC P t H j 0 (.agg xs) cs = storeG H j xs cs := by
 unfold storeG
 rw [storeC_A (n := n)]
 by_cases h : xs.all AV.one = true ∧ plainRow cs = true
 ·rw [if_pos h, if_pos ⟨hx, h.1, by omega, h0, h.2⟩, List.take_zero, List.nil_append, Nat.zero_add, List.drop_of_length_le (by omega), List.append_nil]
 ·rw [if_neg h, if_neg (fun h' => h ⟨h'.2.1, h'.2.2.2.2⟩)]
theorem get_end_ (cs : List AV) : (H ++ [cs])[H.length]? = some cs := by rw [xgR (Nat.le_refl _), Nat.sub_self]; rfl
theorem get_old_ (h : i < H.length) : (H ++ [cs])[i]? = H[i]? := xgL h
theorem get_set_self_ : (H.set j cs)[j]? = (H[j]?).map fun _ => cs := by
 rw [List.getElem?_set]
 simp only [if_pos]
 split
 ·rename_i h; rw [xgE h]; rfl
 ·rename_i h; rw [List.getElem?_eq_none (by omega)]; rfl
theorem get_set_ne_ (h : j ≠ i) : (H.set j cs)[i]? = H[i]? := List.getElem?_set_ne h
theorem len_set_ : (H.set j cs).length = H.length := List.length_set
theorem len_add_ : (H ++ [cs]).length = H.length + 1 := by simp
theorem bind_some_ {α β : Type} {x : α} {f : α → Option β} : (some x).bind f = f x := rfl
theorem map_some_ {α β : Type} {x : α} {f : α → β} : (some x).map f = some (f x) := rfl
end
section
variable {H : Heap} {j : Nat} {x a1 a2 a3 a4 a5 a6 a7 a8 a9 : AV}
@[go_sem] theorem storeS_2_0 : storeS H j 0 x [a1, a2] = some (H.set j [x, a2]) := by unfold storeS; rw [if_pos (by simp), if_pos (by unfold plainRow; cases a1 <;> rfl)]; rfl
@[go_sem] theorem storeS_2_1 : storeS H j 1 x [a1, a2] = some (H.set j [a1, x]) := by unfold storeS; rw [if_pos (by simp), if_pos (by unfold plainRow; cases a1 <;> rfl)]; rfl
@[go_sem] theorem storeC_agg_2 {P : Program} {t : TypeId} {b1 b2 : AV} [hs : SizeIs P t 2] : storeC P t H j 0 (.agg [b1, b2]) [a1, a2] = oneD [b1, b2] (H.set j [b1, b2]) := by
 rw [storeC_G (n := 2) (by decide) rfl rfl]
 unfold storeG oneD
 have : plainRow [a1, a2] = true := by unfold plainRow; cases a1 <;> rfl
 simp only [this, and_true]
@[go_sem] theorem storeS_3_0 : storeS H j 0 x [a1, a2, a3] = some (H.set j [x, a2, a3]) := by unfold storeS; rw [if_pos (by simp), if_pos (by unfold plainRow; cases a1 <;> rfl)]; rfl
@[go_sem] theorem storeS_3_1 : storeS H j 1 x [a1, a2, a3] = some (H.set j [a1, x, a3]) := by unfold storeS; rw [if_pos (by simp), if_pos (by unfold plainRow; cases a1 <;> rfl)]; rfl
@[go_sem] theorem storeS_3_2 : storeS H j 2 x [a1, a2, a3] = some (H.set j [a1, a2, x]) := by unfold storeS; rw [if_pos (by simp), if_pos (by unfold plainRow; cases a1 <;> rfl)]; rfl
@[go_sem] theorem storeC_agg_3 {P : Program} {t : TypeId} {b1 b2 b3 : AV} [hs : SizeIs P t 3] : storeC P t H j 0 (.agg [b1, b2, b3]) [a1, a2, a3] = oneD [b1, b2, b3] (H.set j [b1, b2, b3]) := by
 rw [storeC_G (n := 3) (by decide) rfl rfl]
 unfold storeG oneD
 have : plainRow [a1, a2, a3] = true := by unfold plainRow; cases a1 <;> rfl
 simp only [this, and_true]
@[go_sem] theorem storeS_4_0 : storeS H j 0 x [a1, a2, a3, a4] = some (H.set j [x, a2, a3, a4]) := by unfold storeS; rw [if_pos (by simp), if_pos (by unfold plainRow; cases a1 <;> rfl)]; rfl
@[go_sem] theorem storeS_4_1 : storeS H j 1 x [a1, a2, a3, a4] = some (H.set j [a1, x, a3, a4]) := by unfold storeS; rw [if_pos (by simp), if_pos (by unfold plainRow; cases a1 <;> rfl)]; rfl
@[go_sem] theorem storeS_4_2 : storeS H j 2 x [a1, a2, a3, a4] = some (H.set j [a1, a2, x, a4]) := by unfold storeS; rw [if_pos (by simp), if_pos (by unfold plainRow; cases a1 <;> rfl)]; rfl
@[go_sem] theorem storeS_4_3 : storeS H j 3 x [a1, a2, a3, a4] = some (H.set j [a1, a2, a3, x]) := by unfold storeS; rw [if_pos (by simp), if_pos (by unfold plainRow; cases a1 <;> rfl)]; rfl
@[go_sem] theorem storeC_agg_4 {P : Program} {t : TypeId} {b1 b2 b3 b4 : AV} [hs : SizeIs P t 4] : storeC P t H j 0 (.agg [b1, b2, b3, b4]) [a1, a2, a3, a4] = oneD [b1, b2, b3, b4] (H.set j [b1, b2, b3, b4]) := by
 rw [storeC_G (n := 4) (by decide) rfl rfl]
 unfold storeG oneD
 have : plainRow [a1, a2, a3, a4] = true := by unfold plainRow; cases a1 <;> rfl
 simp only [this, and_true]
@[go_sem] theorem storeS_5_0 : storeS H j 0 x [a1, a2, a3, a4, a5] = some (H.set j [x, a2, a3, a4, a5]) := by unfold storeS; rw [if_pos (by simp), if_pos (by unfold plainRow; cases a1 <;> rfl)]; rfl
@[go_sem] theorem storeS_5_1 : storeS H j 1 x [a1, a2, a3, a4, a5] = some (H.set j [a1, x, a3, a4, a5]) := by unfold storeS; rw [if_pos (by simp), if_pos (by unfold plainRow; cases a1 <;> rfl)]; rfl
@[go_sem] theorem storeS_5_2 : storeS H j 2 x [a1, a2, a3, a4, a5] = some (H.set j [a1, a2, x, a4, a5]) := by unfold storeS; rw [if_pos (by simp), if_pos (by unfold plainRow; cases a1 <;> rfl)]; rfl
@[go_sem] theorem storeS_5_3 : storeS H j 3 x [a1, a2, a3, a4, a5] = some (H.set j [a1, a2, a3, x, a5]) := by unfold storeS; rw [if_pos (by simp), if_pos (by unfold plainRow; cases a1 <;> rfl)]; rfl
@[go_sem] theorem storeS_5_4 : storeS H j 4 x [a1, a2, a3, a4, a5] = some (H.set j [a1, a2, a3, a4, x]) := by unfold storeS; rw [if_pos (by simp), if_pos (by unfold plainRow; cases a1 <;> rfl)]; rfl
@[go_sem] theorem storeC_agg_5 {P : Program} {t : TypeId} {b1 b2 b3 b4 b5 : AV} [hs : SizeIs P t 5] : storeC P t H j 0 (.agg [b1, b2, b3, b4, b5]) [a1, a2, a3, a4, a5] = oneD [b1, b2, b3, b4, b5] (H.set j [b1, b2, b3, b4, b5]) := by
 rw [storeC_G (n := 5) (by decide) rfl rfl]
 unfold storeG oneD
 have : plainRow [a1, a2, a3, a4, a5] = true := by unfold plainRow; cases a1 <;> rfl
 simp only [this, and_true]
@[go_sem] theorem storeS_6_0 : storeS H j 0 x [a1, a2, a3, a4, a5, a6] = some (H.set j [x, a2, a3, a4, a5, a6]) := by unfold storeS; rw [if_pos (by simp), if_pos (by unfold plainRow; cases a1 <;> rfl)]; rfl
@[go_sem] theorem storeS_6_1 : storeS H j 1 x [a1, a2, a3, a4, a5, a6] = some (H.set j [a1, x, a3, a4, a5, a6]) := by unfold storeS; rw [if_pos (by simp), if_pos (by unfold plainRow; cases a1 <;> rfl)]; rfl
@[go_sem] theorem storeS_6_2 : storeS H j 2 x [a1, a2, a3, a4, a5, a6] = some (H.set j [a1, a2, x, a4, a5, a6]) := by unfold storeS; rw [if_pos (by simp), if_pos (by unfold plainRow; cases a1 <;> rfl)]; rfl
@[go_sem] theorem storeS_6_3 : storeS H j 3 x [a1, a2, a3, a4, a5, a6] = some (H.set j [a1, a2, a3, x, a5, a6]) := by unfold storeS; rw [if_pos (by simp), if_pos (by unfold plainRow; cases a1 <;> rfl)]; rfl
@[go_sem] theorem storeS_6_4 : storeS H j 4 x [a1, a2, a3, a4, a5, a6] = some (H.set j [a1, a2, a3, a4, x, a6]) := by unfold storeS; rw [if_pos (by simp), if_pos (by unfold plainRow; cases a1 <;> rfl)]; rfl
@[go_sem] theorem storeS_6_5 : storeS H j 5 x [a1, a2, a3, a4, a5, a6] = some (H.set j [a1, a2, a3, a4, a5, x]) := by unfold storeS; rw [if_pos (by simp), if_pos (by unfold plainRow; cases a1 <;> rfl)]; rfl
@[go_sem] theorem storeC_agg_6 {P : Program} {t : TypeId} {b1 b2 b3 b4 b5 b6 : AV} [hs : SizeIs P t 6] : storeC P t H j 0 (.agg [b1, b2, b3, b4, b5, b6]) [a1, a2, a3, a4, a5, a6] = oneD [b1, b2, b3, b4, b5, b6] (H.set j [b1, b2, b3, b4, b5, b6]) := by
 rw [storeC_G (n := 6) (by decide) rfl rfl]
 unfold storeG oneD
 have : plainRow [a1, a2, a3, a4, a5, a6] = true := by unfold plainRow; cases a1 <;> rfl
 simp only [this, and_true]
@[go_sem] theorem storeS_7_0 : storeS H j 0 x [a1, a2, a3, a4, a5, a6, a7] = some (H.set j [x, a2, a3, a4, a5, a6, a7]) := by unfold storeS; rw [if_pos (by simp), if_pos (by unfold plainRow; cases a1 <;> rfl)]; rfl
@[go_sem] theorem storeS_7_1 : storeS H j 1 x [a1, a2, a3, a4, a5, a6, a7] = some (H.set j [a1, x, a3, a4, a5, a6, a7]) := by unfold storeS; rw [if_pos (by simp), if_pos (by unfold plainRow; cases a1 <;> rfl)]; rfl
@[go_sem] theorem storeS_7_2 : storeS H j 2 x [a1, a2, a3, a4, a5, a6, a7] = some (H.set j [a1, a2, x, a4, a5, a6, a7]) := by unfold storeS; rw [if_pos (by simp), if_pos (by unfold plainRow; cases a1 <;> rfl)]; rfl
@[go_sem] theorem storeS_7_3 : storeS H j 3 x [a1, a2, a3, a4, a5, a6, a7] = some (H.set j [a1, a2, a3, x, a5, a6, a7]) := by unfold storeS; rw [if_pos (by simp), if_pos (by unfold plainRow; cases a1 <;> rfl)]; rfl
@[go_sem] theorem storeS_7_4 : storeS H j 4 x [a1, a2, a3, a4, a5, a6, a7] = some (H.set j [a1, a2, a3, a4, x, a6, a7]) := by unfold storeS; rw [if_pos (by simp), if_pos (by unfold plainRow; cases a1 <;> rfl)]; rfl
@[go_sem] theorem storeS_7_5 : storeS H j 5 x [a1, a2, a3, a4, a5, a6, a7] = some (H.set j [a1, a2, a3, a4, a5, x, a7]) := by unfold storeS; rw [if_pos (by simp), if_pos (by unfold plainRow; cases a1 <;> rfl)]; rfl
@[go_sem] theorem storeS_7_6 : storeS H j 6 x [a1, a2, a3, a4, a5, a6, a7] = some (H.set j [a1, a2, a3, a4, a5, a6, x]) := by unfold storeS; rw [if_pos (by simp), if_pos (by unfold plainRow; cases a1 <;> rfl)]; rfl
@[go_sem] theorem storeC_agg_7 {P : Program} {t : TypeId} {b1 b2 b3 b4 b5 b6 b7 : AV} [hs : SizeIs P t 7] : storeC P t H j 0 (.agg [b1, b2, b3, b4, b5, b6, b7]) [a1, a2, a3, a4, a5, a6, a7] = oneD [b1, b2, b3, b4, b5, b6, b7] (H.set j [b1, b2, b3, b4, b5, b6, b7]) := by
 rw [storeC_G (n := 7) (by decide) rfl rfl]
 unfold storeG oneD
 have : plainRow [a1, a2, a3, a4, a5, a6, a7] = true := by unfold plainRow; cases a1 <;> rfl
 simp only [this, and_true]
@[go_sem] theorem storeS_8_0 : storeS H j 0 x [a1, a2, a3, a4, a5, a6, a7, a8] = some (H.set j [x, a2, a3, a4, a5, a6, a7, a8]) := by unfold storeS; rw [if_pos (by simp), if_pos (by unfold plainRow; cases a1 <;> rfl)]; rfl
@[go_sem] theorem storeS_8_1 : storeS H j 1 x [a1, a2, a3, a4, a5, a6, a7, a8] = some (H.set j [a1, x, a3, a4, a5, a6, a7, a8]) := by unfold storeS; rw [if_pos (by simp), if_pos (by unfold plainRow; cases a1 <;> rfl)]; rfl
@[go_sem] theorem storeS_8_2 : storeS H j 2 x [a1, a2, a3, a4, a5, a6, a7, a8] = some (H.set j [a1, a2, x, a4, a5, a6, a7, a8]) := by unfold storeS; rw [if_pos (by simp), if_pos (by unfold plainRow; cases a1 <;> rfl)]; rfl
@[go_sem] theorem storeS_8_3 : storeS H j 3 x [a1, a2, a3, a4, a5, a6, a7, a8] = some (H.set j [a1, a2, a3, x, a5, a6, a7, a8]) := by unfold storeS; rw [if_pos (by simp), if_pos (by unfold plainRow; cases a1 <;> rfl)]; rfl
@[go_sem] theorem storeS_8_4 : storeS H j 4 x [a1, a2, a3, a4, a5, a6, a7, a8] = some (H.set j [a1, a2, a3, a4, x, a6, a7, a8]) := by unfold storeS; rw [if_pos (by simp), if_pos (by unfold plainRow; cases a1 <;> rfl)]; rfl
@[go_sem] theorem storeS_8_5 : storeS H j 5 x [a1, a2, a3, a4, a5, a6, a7, a8] = some (H.set j [a1, a2, a3, a4, a5, x, a7, a8]) := by unfold storeS; rw [if_pos (by simp), if_pos (by unfold plainRow; cases a1 <;> rfl)]; rfl
@[go_sem] theorem storeS_8_6 : storeS H j 6 x [a1, a2, a3, a4, a5, a6, a7, a8] = some (H.set j [a1, a2, a3, a4, a5, a6, x, a8]) := by unfold storeS; rw [if_pos (by simp), if_pos (by unfold plainRow; cases a1 <;> rfl)]; rfl
@[go_sem] theorem storeS_8_7 : storeS H j 7 x [a1, a2, a3, a4, a5, a6, a7, a8] = some (H.set j [a1, a2, a3, a4, a5, a6, a7, x]) := by unfold storeS; rw [if_pos (by simp), if_pos (by unfold plainRow; cases a1 <;> rfl)]; rfl
@[go_sem] theorem storeC_agg_8 {P : Program} {t : TypeId} {b1 b2 b3 b4 b5 b6 b7 b8 : AV} [hs : SizeIs P t 8] : storeC P t H j 0 (.agg [b1, b2, b3, b4, b5, b6, b7, b8]) [a1, a2, a3, a4, a5, a6, a7, a8] = oneD [b1, b2, b3, b4, b5, b6, b7, b8] (H.set j [b1, b2, b3, b4, b5, b6, b7, b8]) := by
 rw [storeC_G (n := 8) (by decide) rfl rfl]
 unfold storeG oneD
 have : plainRow [a1, a2, a3, a4, a5, a6, a7, a8] = true := by unfold plainRow; cases a1 <;> rfl
 simp only [this, and_true]
@[go_sem] theorem storeS_9_0 : storeS H j 0 x [a1, a2, a3, a4, a5, a6, a7, a8, a9] = some (H.set j [x, a2, a3, a4, a5, a6, a7, a8, a9]) := by unfold storeS; rw [if_pos (by simp), if_pos (by unfold plainRow; cases a1 <;> rfl)]; rfl
@[go_sem] theorem storeS_9_1 : storeS H j 1 x [a1, a2, a3, a4, a5, a6, a7, a8, a9] = some (H.set j [a1, x, a3, a4, a5, a6, a7, a8, a9]) := by unfold storeS; rw [if_pos (by simp), if_pos (by unfold plainRow; cases a1 <;> rfl)]; rfl
@[go_sem] theorem storeS_9_2 : storeS H j 2 x [a1, a2, a3, a4, a5, a6, a7, a8, a9] = some (H.set j [a1, a2, x, a4, a5, a6, a7, a8, a9]) := by unfold storeS; rw [if_pos (by simp), if_pos (by unfold plainRow; cases a1 <;> rfl)]; rfl
@[go_sem] theorem storeS_9_3 : storeS H j 3 x [a1, a2, a3, a4, a5, a6, a7, a8, a9] = some (H.set j [a1, a2, a3, x, a5, a6, a7, a8, a9]) := by unfold storeS; rw [if_pos (by simp), if_pos (by unfold plainRow; cases a1 <;> rfl)]; rfl
@[go_sem] theorem storeS_9_4 : storeS H j 4 x [a1, a2, a3, a4, a5, a6, a7, a8, a9] = some (H.set j [a1, a2, a3, a4, x, a6, a7, a8, a9]) := by unfold storeS; rw [if_pos (by simp), if_pos (by unfold plainRow; cases a1 <;> rfl)]; rfl
@[go_sem] theorem storeS_9_5 : storeS H j 5 x [a1, a2, a3, a4, a5, a6, a7, a8, a9] = some (H.set j [a1, a2, a3, a4, a5, x, a7, a8, a9]) := by unfold storeS; rw [if_pos (by simp), if_pos (by unfold plainRow; cases a1 <;> rfl)]; rfl
@[go_sem] theorem storeS_9_6 : storeS H j 6 x [a1, a2, a3, a4, a5, a6, a7, a8, a9] = some (H.set j [a1, a2, a3, a4, a5, a6, x, a8, a9]) := by unfold storeS; rw [if_pos (by simp), if_pos (by unfold plainRow; cases a1 <;> rfl)]; rfl
@[go_sem] theorem storeS_9_7 : storeS H j 7 x [a1, a2, a3, a4, a5, a6, a7, a8, a9] = some (H.set j [a1, a2, a3, a4, a5, a6, a7, x, a9]) := by unfold storeS; rw [if_pos (by simp), if_pos (by unfold plainRow; cases a1 <;> rfl)]; rfl
@[go_sem] theorem storeS_9_8 : storeS H j 8 x [a1, a2, a3, a4, a5, a6, a7, a8, a9] = some (H.set j [a1, a2, a3, a4, a5, a6, a7, a8, x]) := by unfold storeS; rw [if_pos (by simp), if_pos (by unfold plainRow; cases a1 <;> rfl)]; rfl
@[go_sem] theorem storeC_agg_9 {P : Program} {t : TypeId} {b1 b2 b3 b4 b5 b6 b7 b8 b9 : AV} [hs : SizeIs P t 9] : storeC P t H j 0 (.agg [b1, b2, b3, b4, b5, b6, b7, b8, b9]) [a1, a2, a3, a4, a5, a6, a7, a8, a9] = oneD [b1, b2, b3, b4, b5, b6, b7, b8, b9] (H.set j [b1, b2, b3, b4, b5, b6, b7, b8, b9]) := by
 rw [storeC_G (n := 9) (by decide) rfl rfl]
 unfold storeG oneD
 have : plainRow [a1, a2, a3, a4, a5, a6, a7, a8, a9] = true := by unfold plainRow; cases a1 <;> rfl
 simp only [this, and_true]
end
section
variable {a1 a2 a3 a4 a5 a6 a7 a8 a9 x : AV} {rest : List (Nat × AV)}
@[go_sem] theorem partD1_1_0 : partD1 [(0, 1)] [a1] 0 x rest = fillD [(0, 1)] [x] rest := rfl
@[go_sem] theorem partD1_2_0 : partD1 [(0, 1), (1, 1)] [a1, a2] 0 x rest = fillD [(0, 1), (1, 1)] [x, a2] rest := rfl
@[go_sem] theorem partD1_2_1 : partD1 [(0, 1), (1, 1)] [a1, a2] 1 x rest = fillD [(0, 1), (1, 1)] [a1, x] rest := rfl
@[go_sem] theorem partD1_3_0 : partD1 [(0, 1), (1, 1), (2, 1)] [a1, a2, a3] 0 x rest = fillD [(0, 1), (1, 1), (2, 1)] [x, a2, a3] rest := rfl
@[go_sem] theorem partD1_3_1 : partD1 [(0, 1), (1, 1), (2, 1)] [a1, a2, a3] 1 x rest = fillD [(0, 1), (1, 1), (2, 1)] [a1, x, a3] rest := rfl
@[go_sem] theorem partD1_3_2 : partD1 [(0, 1), (1, 1), (2, 1)] [a1, a2, a3] 2 x rest = fillD [(0, 1), (1, 1), (2, 1)] [a1, a2, x] rest := rfl
@[go_sem] theorem partD1_4_0 : partD1 [(0, 1), (1, 1), (2, 1), (3, 1)] [a1, a2, a3, a4] 0 x rest = fillD [(0, 1), (1, 1), (2, 1), (3, 1)] [x, a2, a3, a4] rest := rfl
@[go_sem] theorem partD1_4_1 : partD1 [(0, 1), (1, 1), (2, 1), (3, 1)] [a1, a2, a3, a4] 1 x rest = fillD [(0, 1), (1, 1), (2, 1), (3, 1)] [a1, x, a3, a4] rest := rfl
@[go_sem] theorem partD1_4_2 : partD1 [(0, 1), (1, 1), (2, 1), (3, 1)] [a1, a2, a3, a4] 2 x rest = fillD [(0, 1), (1, 1), (2, 1), (3, 1)] [a1, a2, x, a4] rest := rfl
@[go_sem] theorem partD1_4_3 : partD1 [(0, 1), (1, 1), (2, 1), (3, 1)] [a1, a2, a3, a4] 3 x rest = fillD [(0, 1), (1, 1), (2, 1), (3, 1)] [a1, a2, a3, x] rest := rfl
@[go_sem] theorem partD1_5_0 : partD1 [(0, 1), (1, 1), (2, 1), (3, 1), (4, 1)] [a1, a2, a3, a4, a5] 0 x rest = fillD [(0, 1), (1, 1), (2, 1), (3, 1), (4, 1)] [x, a2, a3, a4, a5] rest := rfl
@[go_sem] theorem partD1_5_1 : partD1 [(0, 1), (1, 1), (2, 1), (3, 1), (4, 1)] [a1, a2, a3, a4, a5] 1 x rest = fillD [(0, 1), (1, 1), (2, 1), (3, 1), (4, 1)] [a1, x, a3, a4, a5] rest := rfl
@[go_sem] theorem partD1_5_2 : partD1 [(0, 1), (1, 1), (2, 1), (3, 1), (4, 1)] [a1, a2, a3, a4, a5] 2 x rest = fillD [(0, 1), (1, 1), (2, 1), (3, 1), (4, 1)] [a1, a2, x, a4, a5] rest := rfl
@[go_sem] theorem partD1_5_3 : partD1 [(0, 1), (1, 1), (2, 1), (3, 1), (4, 1)] [a1, a2, a3, a4, a5] 3 x rest = fillD [(0, 1), (1, 1), (2, 1), (3, 1), (4, 1)] [a1, a2, a3, x, a5] rest := rfl
@[go_sem] theorem partD1_5_4 : partD1 [(0, 1), (1, 1), (2, 1), (3, 1), (4, 1)] [a1, a2, a3, a4, a5] 4 x rest = fillD [(0, 1), (1, 1), (2, 1), (3, 1), (4, 1)] [a1, a2, a3, a4, x] rest := rfl
@[go_sem] theorem partD1_6_0 : partD1 [(0, 1), (1, 1), (2, 1), (3, 1), (4, 1), (5, 1)] [a1, a2, a3, a4, a5, a6] 0 x rest = fillD [(0, 1), (1, 1), (2, 1), (3, 1), (4, 1), (5, 1)] [x, a2, a3, a4, a5, a6] rest := rfl
@[go_sem] theorem partD1_6_1 : partD1 [(0, 1), (1, 1), (2, 1), (3, 1), (4, 1), (5, 1)] [a1, a2, a3, a4, a5, a6] 1 x rest = fillD [(0, 1), (1, 1), (2, 1), (3, 1), (4, 1), (5, 1)] [a1, x, a3, a4, a5, a6] rest := rfl
@[go_sem] theorem partD1_6_2 : partD1 [(0, 1), (1, 1), (2, 1), (3, 1), (4, 1), (5, 1)] [a1, a2, a3, a4, a5, a6] 2 x rest = fillD [(0, 1), (1, 1), (2, 1), (3, 1), (4, 1), (5, 1)] [a1, a2, x, a4, a5, a6] rest := rfl
@[go_sem] theorem partD1_6_3 : partD1 [(0, 1), (1, 1), (2, 1), (3, 1), (4, 1), (5, 1)] [a1, a2, a3, a4, a5, a6] 3 x rest = fillD [(0, 1), (1, 1), (2, 1), (3, 1), (4, 1), (5, 1)] [a1, a2, a3, x, a5, a6] rest := rfl
@[go_sem] theorem partD1_6_4 : partD1 [(0, 1), (1, 1), (2, 1), (3, 1), (4, 1), (5, 1)] [a1, a2, a3, a4, a5, a6] 4 x rest = fillD [(0, 1), (1, 1), (2, 1), (3, 1), (4, 1), (5, 1)] [a1, a2, a3, a4, x, a6] rest := rfl
@[go_sem] theorem partD1_6_5 : partD1 [(0, 1), (1, 1), (2, 1), (3, 1), (4, 1), (5, 1)] [a1, a2, a3, a4, a5, a6] 5 x rest = fillD [(0, 1), (1, 1), (2, 1), (3, 1), (4, 1), (5, 1)] [a1, a2, a3, a4, a5, x] rest := rfl
@[go_sem] theorem partD1_7_0 : partD1 [(0, 1), (1, 1), (2, 1), (3, 1), (4, 1), (5, 1), (6, 1)] [a1, a2, a3, a4, a5, a6, a7] 0 x rest = fillD [(0, 1), (1, 1), (2, 1), (3, 1), (4, 1), (5, 1), (6, 1)] [x, a2, a3, a4, a5, a6, a7] rest := rfl
@[go_sem] theorem partD1_7_1 : partD1 [(0, 1), (1, 1), (2, 1), (3, 1), (4, 1), (5, 1), (6, 1)] [a1, a2, a3, a4, a5, a6, a7] 1 x rest = fillD [(0, 1), (1, 1), (2, 1), (3, 1), (4, 1), (5, 1), (6, 1)] [a1, x, a3, a4, a5, a6, a7] rest := rfl
@[go_sem] theorem partD1_7_2 : partD1 [(0, 1), (1, 1), (2, 1), (3, 1), (4, 1), (5, 1), (6, 1)] [a1, a2, a3, a4, a5, a6, a7] 2 x rest = fillD [(0, 1), (1, 1), (2, 1), (3, 1), (4, 1), (5, 1), (6, 1)] [a1, a2, x, a4, a5, a6, a7] rest := rfl
@[go_sem] theorem partD1_7_3 : partD1 [(0, 1), (1, 1), (2, 1), (3, 1), (4, 1), (5, 1), (6, 1)] [a1, a2, a3, a4, a5, a6, a7] 3 x rest = fillD [(0, 1), (1, 1), (2, 1), (3, 1), (4, 1), (5, 1), (6, 1)] [a1, a2, a3, x, a5, a6, a7] rest := rfl
@[go_sem] theorem partD1_7_4 : partD1 [(0, 1), (1, 1), (2, 1), (3, 1), (4, 1), (5, 1), (6, 1)] [a1, a2, a3, a4, a5, a6, a7] 4 x rest = fillD [(0, 1), (1, 1), (2, 1), (3, 1), (4, 1), (5, 1), (6, 1)] [a1, a2, a3, a4, x, a6, a7] rest := rfl
@[go_sem] theorem partD1_7_5 : partD1 [(0, 1), (1, 1), (2, 1), (3, 1), (4, 1), (5, 1), (6, 1)] [a1, a2, a3, a4, a5, a6, a7] 5 x rest = fillD [(0, 1), (1, 1), (2, 1), (3, 1), (4, 1), (5, 1), (6, 1)] [a1, a2, a3, a4, a5, x, a7] rest := rfl
@[go_sem] theorem partD1_7_6 : partD1 [(0, 1), (1, 1), (2, 1), (3, 1), (4, 1), (5, 1), (6, 1)] [a1, a2, a3, a4, a5, a6, a7] 6 x rest = fillD [(0, 1), (1, 1), (2, 1), (3, 1), (4, 1), (5, 1), (6, 1)] [a1, a2, a3, a4, a5, a6, x] rest := rfl
@[go_sem] theorem partD1_8_0 : partD1 [(0, 1), (1, 1), (2, 1), (3, 1), (4, 1), (5, 1), (6, 1), (7, 1)] [a1, a2, a3, a4, a5, a6, a7, a8] 0 x rest = fillD [(0, 1), (1, 1), (2, 1), (3, 1), (4, 1), (5, 1), (6, 1), (7, 1)] [x, a2, a3, a4, a5, a6, a7, a8] rest := rfl
@[go_sem] theorem partD1_8_1 : partD1 [(0, 1), (1, 1), (2, 1), (3, 1), (4, 1), (5, 1), (6, 1), (7, 1)] [a1, a2, a3, a4, a5, a6, a7, a8] 1 x rest = fillD [(0, 1), (1, 1), (2, 1), (3, 1), (4, 1), (5, 1), (6, 1), (7, 1)] [a1, x, a3, a4, a5, a6, a7, a8] rest := rfl
@[go_sem] theorem partD1_8_2 : partD1 [(0, 1), (1, 1), (2, 1), (3, 1), (4, 1), (5, 1), (6, 1), (7, 1)] [a1, a2, a3, a4, a5, a6, a7, a8] 2 x rest = fillD [(0, 1), (1, 1), (2, 1), (3, 1), (4, 1), (5, 1), (6, 1), (7, 1)] [a1, a2, x, a4, a5, a6, a7, a8] rest := rfl
@[go_sem] theorem partD1_8_3 : partD1 [(0, 1), (1, 1), (2, 1), (3, 1), (4, 1), (5, 1), (6, 1), (7, 1)] [a1, a2, a3, a4, a5, a6, a7, a8] 3 x rest = fillD [(0, 1), (1, 1), (2, 1), (3, 1), (4, 1), (5, 1), (6, 1), (7, 1)] [a1, a2, a3, x, a5, a6, a7, a8] rest := rfl
@[go_sem] theorem partD1_8_4 : partD1 [(0, 1), (1, 1), (2, 1), (3, 1), (4, 1), (5, 1), (6, 1), (7, 1)] [a1, a2, a3, a4, a5, a6, a7, a8] 4 x rest = fillD [(0, 1), (1, 1), (2, 1), (3, 1), (4, 1), (5, 1), (6, 1), (7, 1)] [a1, a2, a3, a4, x, a6, a7, a8] rest := rfl
@[go_sem] theorem partD1_8_5 : partD1 [(0, 1), (1, 1), (2, 1), (3, 1), (4, 1), (5, 1), (6, 1), (7, 1)] [a1, a2, a3, a4, a5, a6, a7, a8] 5 x rest = fillD [(0, 1), (1, 1), (2, 1), (3, 1), (4, 1), (5, 1), (6, 1), (7, 1)] [a1, a2, a3, a4, a5, x, a7, a8] rest := rfl
@[go_sem] theorem partD1_8_6 : partD1 [(0, 1), (1, 1), (2, 1), (3, 1), (4, 1), (5, 1), (6, 1), (7, 1)] [a1, a2, a3, a4, a5, a6, a7, a8] 6 x rest = fillD [(0, 1), (1, 1), (2, 1), (3, 1), (4, 1), (5, 1), (6, 1), (7, 1)] [a1, a2, a3, a4, a5, a6, x, a8] rest := rfl
@[go_sem] theorem partD1_8_7 : partD1 [(0, 1), (1, 1), (2, 1), (3, 1), (4, 1), (5, 1), (6, 1), (7, 1)] [a1, a2, a3, a4, a5, a6, a7, a8] 7 x rest = fillD [(0, 1), (1, 1), (2, 1), (3, 1), (4, 1), (5, 1), (6, 1), (7, 1)] [a1, a2, a3, a4, a5, a6, a7, x] rest := rfl
end
section
variable {P : Program} {t e : TypeId} {j o : Nat}
@[go_sem] theorem bin_ptr_eql [h : UndIs P t (.pointer e)] : bin P .eql t (.ptr j o) (.v (.pointer none)) = some (.b false) := by unfold bin; simp only [h.h]
@[go_sem] theorem bin_ptr_neq [h : UndIs P t (.pointer e)] : bin P .neq t (.ptr j o) (.v (.pointer none)) = some (.b true) := by unfold bin; simp only [h.h]
@[go_sem] theorem bin_nil_eql [h : UndIs P t (.pointer e)] : bin P .eql t (.v (.pointer none)) (.v (.pointer none)) = some (.b true) := by unfold bin; simp only [h.h]
@[go_sem] theorem bin_nil_neq [h : UndIs P t (.pointer e)] : bin P .neq t (.v (.pointer none)) (.v (.pointer none)) = some (.b false) := by unfold bin; simp only [h.h]
end
theorem wdl : (∀ (P : Program) (H : Heap) (t : TypeId) (j off : Nat) (a : AV), storeA P H t (.ptr j off) a = (H[j]?).bind (storeC P t H j off a)) ∧ (∀ (H : Heap) (cs : List AV), (H ++ [cs])[H.length]? = some cs) ∧ (∀ (H : Heap) (cs : List AV) (i : Nat), i < H.length → (H ++ [cs])[i]? = H[i]?) ∧ (∀ (H : Heap) (j : Nat) (cs : List AV), (H.set j cs)[j]? = (H[j]?).map fun _ => cs) ∧ (∀ (H : Heap) (j i : Nat) (cs : List AV), j ≠ i → (H.set j cs)[i]? = H[i]?) ∧ (∀ (H : Heap) (j : Nat) (cs : List AV), (H.set j cs).length = H.length) ∧ (∀ (H : Heap) (cs : List AV), (H ++ [cs]).length = H.length + 1) :=
 ⟨fun _ _ _ _ _ _ => store_ptr, fun _ cs => get_end_ cs, fun _ _ _ h => get_old_ h, fun _ _ _ => get_set_self_, fun _ _ _ _ h => get_set_ne_ h, fun _ _ _ => len_set_, fun _ _ => len_add_⟩
end Go.Lv
set_option linter.unusedVariables false
set_option linter.unusedSimpArgs false
namespace Go.Lv
section
variable {P : Program} {H : Heap}
class Cell1 {α : Type} (f : α → AV) : Prop where
 c : ∀ x, (f x).cells = [f x]
 o : ∀ x, (f x).one = true
instance : Cell1 (fun n : Int => AV.v (.int .i64 n)) := ⟨fun _ => rfl, fun _ => rfl⟩
instance : Cell1 byteA := ⟨fun _ => rfl, fun _ => rfl⟩
instance : Cell1 AV.str := ⟨fun _ => rfl, fun _ => rfl⟩
theorem all_cell1 {α : Type} {f : α → AV} [hf : Cell1 f] (xs : List α) : (xs.map f).all AV.one = true := by
 simp [List.all_eq_true, hf.o]
@[go_sem] theorem freeze_ow {xs : List AV} {j : Nat} : freezeA H (.ow xs j) = some (.sl xs, H) := rfl
@[go_sem] theorem freeze_sl {xs : List AV} : freezeA H (.sl xs) = some (.sl xs, H) := rfl
@[go_sem] theorem freeze_nil : freezeA H nilA = some (.sl [], H) := rfl
def RowOf {α : Type} (f : α → AV) (n : Nat) (H : Heap) (a : AV) (xs : List α) : Prop :=
 (a = nilA ∧ xs = []) ∨ ∃ j, n ≤ j ∧ a = .mr j 0 xs.length 1 false ∧ H[j]? = some (xs.map f) ∧ 0 < xs.length
section
variable {α : Type} {f : α → AV} {n : Nat} {a : AV} {xs : List α}
theorem RowOf.nil : RowOf f n H nilA [] := .inl ⟨rfl, rfl⟩
theorem RowOf.len (h : RowOf f n H a xs) {el : TypeId} : lenD (some (.slice el)) (owA a) = some (.v (.int .i64 xs.length)) := by
 rcases h with ⟨rfl, rfl⟩ | ⟨j, _, rfl, _, _⟩ <;> rfl
theorem RowOf.ow (h : RowOf f n H a xs) : owA a = a := by
 rcases h with ⟨rfl, rfl⟩ | ⟨j, _, rfl, _, _⟩ <;> rfl
theorem pre_set1 {H0 H' : Heap} (hp : H0 <+: H') {j : Nat} (hj : H0.length ≤ j) (cs : List AV) : H0 <+: H'.set j cs := by
 obtain ⟨G, rfl⟩ := hp
 rw [List.set_append_right _ _ hj]
 exact ⟨_, rfl⟩
end
@[go_sem] theorem slice_mr {t el : TypeId} {j off len n : Nat} {g : Bool} [ht : UndIs P t (.slice el)] [hs : SizeIs P el n] {lo hi : Option AV} :
  sliceA P t (.mr j off len n g) lo hi none = (bound len hi len).bind fun h => (bound h lo 0).bind fun l => some (if l < h ∨ l = 0 then .mr j (off + l * n) (h - l) n g else .sl []) := by
 unfold sliceA
 rw [ht.h]
 simp only [hs.h, if_true]
@[go_sem] theorem slice_nilA {t el : TypeId} {n : Nat} [ht : UndIs P t (.slice el)] [hs : SizeIs P el n] {lo hi : Option AV} :
  sliceA P t nilA lo hi none = (bound 0 hi 0).bind fun h => (bound h lo 0).bind fun _ => some nilA := by
 unfold sliceA nilA
 rw [ht.h]
 simp only [hs.h, Option.bind_some]
 rfl
theorem append_lit {α : Type} {f : α → AV} {n : Nat} [hf : CellsN f n] {x : α} {ys : List α} {el el' : TypeId} [h : SizeIs P el n] :
  appendD P (some (.slice el)) (some (.slice el')) (.sl [f x]) (.sl (ys.map f)) = roomD n (sizeT P el) (bytesT P el) (zeroA P el) (1 + ys.length) (.sl ((x :: ys).map f)) := by
 have := append_map (P := P) (f := f) (xs := [x]) (ys := ys) (el := el) (el' := el')
 simpa using this
@[go_sem] theorem append_int1 {x : Int} {ys : List Int} {el el' : TypeId} [h : SizeIs P el 1] :
  appendD P (some (.slice el)) (some (.slice el')) (.sl [.v (.int .i64 x)]) (.sl (ys.map fun n => AV.v (.int .i64 n))) = roomD 1 (sizeT P el) (bytesT P el) (zeroA P el) (1 + ys.length) (.sl ((x :: ys).map fun n => AV.v (.int .i64 n))) :=
 append_lit (f := fun n : Int => AV.v (.int .i64 n))
@[go_sem] theorem append_int0 {x : Int} {el el' : TypeId} [h : SizeIs P el 1] :
  appendD P (some (.slice el)) (some (.slice el')) (.sl [.v (.int .i64 x)]) (.sl []) = roomD 1 (sizeT P el) (bytesT P el) (zeroA P el) 1 (.sl ([x].map fun n => AV.v (.int .i64 n))) := by
 have := append_lit (P := P) (f := fun n : Int => AV.v (.int .i64 n)) (x := x) (ys := []) (el := el) (el' := el')
 simpa using this
end
end Go.Lv
