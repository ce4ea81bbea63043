/- A value semantics of the loaded code, its soundness, and walks through functions over it. -/
import Derived.Test.YticlhjamafdmfaaLvAll8
import Derived.Laws.Strings
import Derived.Test.YticlhjamafdmfaaLvAll6
set_option linter.unusedVariables false
set_option linter.unusedSimpArgs false
/-! What operations give on lists of plain values, for rewriting. -/
namespace Go.Lv

/-- A string by its bytes. -/
def AV.str (l : List UInt8) : AV := .v (.string ⟨⟨l⟩⟩)
/-- A row of bytes. -/
def AV.bytes (l : List UInt8) : AV := .sl (l.map byteA)
/-- The element at a place. -/
def ix {α : Type} [Inhabited α] (xs : List α) (i : Int) : α := xs.getD i.toNat default

theorem str_eta (s : ByteArray) : AV.v (.string s) = AV.str s.data.toList := rfl

attribute [go_sem] decide_eq_true_eq decide_eq_false_iff_not Bool.not_eq_true' Bool.not_eq_false' List.map_cons List.map_nil Option.map_some Option.map_none decide_true decide_false

/-- Elements that fill so many cells. -/
class CellsN {α : Type} (f : α → AV) (n : outParam Nat) : Prop where
  h : ∀ x, (f x).cells.length = n
instance : CellsN (fun n : Int => AV.v (.int .i64 n)) 1 := ⟨fun _ => rfl⟩
instance : CellsN (fun n : Bool => AV.v (.bool n)) 1 := ⟨fun _ => rfl⟩
instance : CellsN AV.str 1 := ⟨fun _ => rfl⟩
instance : CellsN byteA 1 := ⟨fun _ => rfl⟩
instance : CellsN AV.bytes 1 := ⟨fun _ => rfl⟩

@[go_sem] theorem owA_str {l : List UInt8} : owA (AV.str l) = AV.str l := rfl
@[go_sem] theorem owA_byte {b : UInt8} : owA (byteA b) = byteA b := rfl
@[go_sem] theorem owA_nilA : owA nilA = nilA := rfl
@[go_sem] theorem plainA_str {l : List UInt8} : plainA (AV.str l) = AV.str l := rfl
@[go_sem] theorem plainA_byte {b : UInt8} : plainA (byteA b) = byteA b := rfl
/-- Elements that no mark is on. -/
class NoMark {α : Type} (f : α → AV) : Prop where
  o : ∀ x, owA (f x) = f x
  p : ∀ x, plainA (f x) = f x
instance : NoMark AV.bytes := ⟨fun _ => rfl, fun _ => rfl⟩
@[go_sem] theorem owA_bytes {l : List UInt8} : owA (AV.bytes l) = AV.bytes l := rfl
@[go_sem] theorem plainA_bytes {l : List UInt8} : plainA (AV.bytes l) = AV.bytes l := rfl

section
variable {P : Program} {e : Env} {H : Heap}

@[go_sem] theorem ev_str {l : List UInt8} : ev e (.const (.string { data := List.toArray l })) = AV.str l := rfl
@[go_sem] theorem ev_str0 : ev e (.const (.string ByteArray.empty)) = AV.str [] := rfl

/-! ### Integers -/
@[go_sem] theorem wrap_i64 {x : Int} (h1 : -9223372036854775808 ≤ x) (h2 : x < 9223372036854775808) : IntKind.wrap .i64 x = x := by
  simp only [IntKind.wrap, IntKind.signed, IntKind.bits] at *
  first
    | omega
    | (split <;> omega)
    | (simp; omega)
@[go_sem] theorem wrap_i32 {x : Int} (h1 : -2147483648 ≤ x) (h2 : x < 2147483648) : IntKind.wrap .i32 x = x := by
  simp only [IntKind.wrap, IntKind.signed, IntKind.bits] at *
  first
    | omega
    | (split <;> omega)
    | (simp; omega)
@[go_sem] theorem wrap_i16 {x : Int} (h1 : -32768 ≤ x) (h2 : x < 32768) : IntKind.wrap .i16 x = x := by
  simp only [IntKind.wrap, IntKind.signed, IntKind.bits] at *
  first
    | omega
    | (split <;> omega)
    | (simp; omega)
@[go_sem] theorem wrap_i8 {x : Int} (h1 : -128 ≤ x) (h2 : x < 128) : IntKind.wrap .i8 x = x := by
  simp only [IntKind.wrap, IntKind.signed, IntKind.bits] at *
  first
    | omega
    | (split <;> omega)
    | (simp; omega)
@[go_sem] theorem wrap_u8 {x : Int} (h1 : 0 ≤ x) (h2 : x < 256) : IntKind.wrap .u8 x = x := by
  simp only [IntKind.wrap, IntKind.signed, IntKind.bits] at *
  first
    | omega
    | (split <;> omega)
    | (simp; omega)
@[go_sem] theorem wrap_u16 {x : Int} (h1 : 0 ≤ x) (h2 : x < 65536) : IntKind.wrap .u16 x = x := by
  simp only [IntKind.wrap, IntKind.signed, IntKind.bits] at *
  first
    | omega
    | (split <;> omega)
    | (simp; omega)
@[go_sem] theorem wrap_u32 {x : Int} (h1 : 0 ≤ x) (h2 : x < 4294967296) : IntKind.wrap .u32 x = x := by
  simp only [IntKind.wrap, IntKind.signed, IntKind.bits] at *
  first
    | omega
    | (split <;> omega)
    | (simp; omega)
@[go_sem] theorem wrap_u64 {x : Int} (h1 : 0 ≤ x) (h2 : x < 18446744073709551616) : IntKind.wrap .u64 x = x := by
  simp only [IntKind.wrap, IntKind.signed, IntKind.bits] at *
  first
    | omega
    | (split <;> omega)
    | (simp; omega)

@[go_sem] theorem wrap_byte_i64 {b : UInt8} : IntKind.wrap .i64 (b.toNat : Int) = b.toNat := by
  have := b.toNat_lt
  exact wrap_i64 (by omega) (by omega)
@[go_sem] theorem wrap_byte_u64 {b : UInt8} : IntKind.wrap .u64 (b.toNat : Int) = b.toNat := by
  have := b.toNat_lt
  exact wrap_u64 (by omega) (by omega)
@[go_sem] theorem wrap_byte_u32 {b : UInt8} : IntKind.wrap .u32 (b.toNat : Int) = b.toNat := by
  have := b.toNat_lt
  exact wrap_u32 (by omega) (by omega)
@[go_sem] theorem wrap_byte_i32 {b : UInt8} : IntKind.wrap .i32 (b.toNat : Int) = b.toNat := by
  have := b.toNat_lt
  exact wrap_i32 (by omega) (by omega)
@[go_sem] theorem wrap_byte_u16 {b : UInt8} : IntKind.wrap .u16 (b.toNat : Int) = b.toNat := by
  have := b.toNat_lt
  exact wrap_u16 (by omega) (by omega)
@[go_sem] theorem wrap_byte_u8 {b : UInt8} : IntKind.wrap .u8 (b.toNat : Int) = b.toNat := by
  have := b.toNat_lt
  exact wrap_u8 (by omega) (by omega)

variable {xt : TypeId} {k k' : IntKind} {x y : Int}
@[go_sem] theorem bin_add : bin P .add xt (.v (.int k x)) (.v (.int k y)) = some (.v (.int k (k.wrap (x + y)))) := by simp [bin, binI]
@[go_sem] theorem bin_sub : bin P .sub xt (.v (.int k x)) (.v (.int k y)) = some (.v (.int k (k.wrap (x - y)))) := by simp [bin, binI]
@[go_sem] theorem bin_mul : bin P .mul xt (.v (.int k x)) (.v (.int k y)) = some (.v (.int k (k.wrap (x * y)))) := by simp [bin, binI]
@[go_sem] theorem bin_quo (h : y ≠ 0) : bin P .quo xt (.v (.int k x)) (.v (.int k y)) = some (.v (.int k (k.wrap (x.tdiv y)))) := by simp [bin, binI, h]
@[go_sem] theorem bin_rem (h : y ≠ 0) : bin P .rem xt (.v (.int k x)) (.v (.int k y)) = some (.v (.int k (x.tmod y))) := by simp [bin, binI, h]
theorem bin_shl' (h : 0 ≤ y) : bin P .shl xt (.v (.int k x)) (.v (.int k' y)) = some (.v (.int k (k.wrap (x * 2 ^ (min y.toNat k.bits))))) := by simp [bin, Int.not_lt.2 h]
theorem bin_shr' (h : 0 ≤ y) : bin P .shr xt (.v (.int k x)) (.v (.int k' y)) = some (.v (.int k (x.fdiv (2 ^ (min y.toNat k.bits))))) := by simp [bin, Int.not_lt.2 h]
theorem fdiv_pow (x : Int) (n : Nat) : x.fdiv (2 ^ n) = x / 2 ^ n := Int.fdiv_eq_ediv_of_nonneg x (Int.le_of_lt (Int.pow_pos (by omega)))
@[go_sem] theorem bin_shl_i64 (h : 0 ≤ y) (h1 : y < 64) : bin P .shl xt (.v (.int .i64 x)) (.v (.int k' y)) = some (.v (.int .i64 (IntKind.wrap .i64 (x * 2 ^ y.toNat)))) := by
  rw [bin_shl' h, show min y.toNat (IntKind.bits .i64) = y.toNat from Nat.min_eq_left (by show y.toNat ≤ 64; omega)]
@[go_sem] theorem bin_shr_i64 (h : 0 ≤ y) (h1 : y < 64) : bin P .shr xt (.v (.int .i64 x)) (.v (.int k' y)) = some (.v (.int .i64 (x / 2 ^ y.toNat))) := by
  rw [bin_shr' h, show min y.toNat (IntKind.bits .i64) = y.toNat from Nat.min_eq_left (by show y.toNat ≤ 64; omega), fdiv_pow]
@[go_sem] theorem bin_shl_u64 (h : 0 ≤ y) (h1 : y < 64) : bin P .shl xt (.v (.int .u64 x)) (.v (.int k' y)) = some (.v (.int .u64 (IntKind.wrap .u64 (x * 2 ^ y.toNat)))) := by
  rw [bin_shl' h, show min y.toNat (IntKind.bits .u64) = y.toNat from Nat.min_eq_left (by show y.toNat ≤ 64; omega)]
@[go_sem] theorem bin_shr_u64 (h : 0 ≤ y) (h1 : y < 64) : bin P .shr xt (.v (.int .u64 x)) (.v (.int k' y)) = some (.v (.int .u64 (x / 2 ^ y.toNat))) := by
  rw [bin_shr' h, show min y.toNat (IntKind.bits .u64) = y.toNat from Nat.min_eq_left (by show y.toNat ≤ 64; omega), fdiv_pow]
@[go_sem] theorem bin_shl_u32 (h : 0 ≤ y) (h1 : y < 32) : bin P .shl xt (.v (.int .u32 x)) (.v (.int k' y)) = some (.v (.int .u32 (IntKind.wrap .u32 (x * 2 ^ y.toNat)))) := by
  rw [bin_shl' h, show min y.toNat (IntKind.bits .u32) = y.toNat from Nat.min_eq_left (by show y.toNat ≤ 32; omega)]
@[go_sem] theorem bin_shr_u32 (h : 0 ≤ y) (h1 : y < 32) : bin P .shr xt (.v (.int .u32 x)) (.v (.int k' y)) = some (.v (.int .u32 (x / 2 ^ y.toNat))) := by
  rw [bin_shr' h, show min y.toNat (IntKind.bits .u32) = y.toNat from Nat.min_eq_left (by show y.toNat ≤ 32; omega), fdiv_pow]
@[go_sem] theorem bin_shl_i32 (h : 0 ≤ y) (h1 : y < 32) : bin P .shl xt (.v (.int .i32 x)) (.v (.int k' y)) = some (.v (.int .i32 (IntKind.wrap .i32 (x * 2 ^ y.toNat)))) := by
  rw [bin_shl' h, show min y.toNat (IntKind.bits .i32) = y.toNat from Nat.min_eq_left (by show y.toNat ≤ 32; omega)]
@[go_sem] theorem bin_shr_i32 (h : 0 ≤ y) (h1 : y < 32) : bin P .shr xt (.v (.int .i32 x)) (.v (.int k' y)) = some (.v (.int .i32 (x / 2 ^ y.toNat))) := by
  rw [bin_shr' h, show min y.toNat (IntKind.bits .i32) = y.toNat from Nat.min_eq_left (by show y.toNat ≤ 32; omega), fdiv_pow]
@[go_sem] theorem bin_shl_u16 (h : 0 ≤ y) (h1 : y < 16) : bin P .shl xt (.v (.int .u16 x)) (.v (.int k' y)) = some (.v (.int .u16 (IntKind.wrap .u16 (x * 2 ^ y.toNat)))) := by
  rw [bin_shl' h, show min y.toNat (IntKind.bits .u16) = y.toNat from Nat.min_eq_left (by show y.toNat ≤ 16; omega)]
@[go_sem] theorem bin_shr_u16 (h : 0 ≤ y) (h1 : y < 16) : bin P .shr xt (.v (.int .u16 x)) (.v (.int k' y)) = some (.v (.int .u16 (x / 2 ^ y.toNat))) := by
  rw [bin_shr' h, show min y.toNat (IntKind.bits .u16) = y.toNat from Nat.min_eq_left (by show y.toNat ≤ 16; omega), fdiv_pow]
@[go_sem] theorem bin_shl_u8 (h : 0 ≤ y) (h1 : y < 8) : bin P .shl xt (.v (.int .u8 x)) (.v (.int k' y)) = some (.v (.int .u8 (IntKind.wrap .u8 (x * 2 ^ y.toNat)))) := by
  rw [bin_shl' h, show min y.toNat (IntKind.bits .u8) = y.toNat from Nat.min_eq_left (by show y.toNat ≤ 8; omega)]
@[go_sem] theorem bin_shr_u8 (h : 0 ≤ y) (h1 : y < 8) : bin P .shr xt (.v (.int .u8 x)) (.v (.int k' y)) = some (.v (.int .u8 (x / 2 ^ y.toNat))) := by
  rw [bin_shr' h, show min y.toNat (IntKind.bits .u8) = y.toNat from Nat.min_eq_left (by show y.toNat ≤ 8; omega), fdiv_pow]
@[go_sem] theorem bin_eql : bin P .eql xt (.v (.int k x)) (.v (.int k y)) = some (.v (.bool (decide (x = y)))) := by
  simp only [bin, binI, if_true, Option.map_some, Option.some.injEq, AV.v.injEq, Value.bool.injEq]; exact Bool.eq_iff_iff.2 (by simp)
@[go_sem] theorem bin_neq : bin P .neq xt (.v (.int k x)) (.v (.int k y)) = some (.v (.bool (decide (x ≠ y)))) := by
  simp only [bin, binI, if_true, Option.map_some, Option.some.injEq, AV.v.injEq, Value.bool.injEq]; exact Bool.eq_iff_iff.2 (by simp)
@[go_sem] theorem bin_lss : bin P .lss xt (.v (.int k x)) (.v (.int k y)) = some (.v (.bool (decide (x < y)))) := by simp [bin, binI]
@[go_sem] theorem bin_leq : bin P .leq xt (.v (.int k x)) (.v (.int k y)) = some (.v (.bool (decide (x ≤ y)))) := by simp [bin, binI]
@[go_sem] theorem bin_gtr : bin P .gtr xt (.v (.int k x)) (.v (.int k y)) = some (.v (.bool (decide (y < x)))) := by simp [bin, binI]
@[go_sem] theorem bin_geq : bin P .geq xt (.v (.int k x)) (.v (.int k y)) = some (.v (.bool (decide (y ≤ x)))) := by simp [bin, binI]
@[go_sem] theorem un1_neg : un1 .neg (.v (.int k x)) = some (.v (.int k (k.wrap (0 - x)))) := rfl
@[go_sem] theorem un1_not {b : Bool} : un1 .not (.v (.bool b)) = some (.v (.bool (!b))) := rfl
@[go_sem] theorem decide_not_b {p : Prop} [Decidable p] : (!decide p) = decide (¬ p) := by by_cases h : p <;> simp [h]
@[go_sem] theorem minA_v : minA (.v (.int k x)) (.v (.int k' y)) = some (.v (.int k (min x y))) := by
  simp only [minA, Option.some.injEq, AV.v.injEq, Value.int.injEq, true_and]; split <;> omega
@[go_sem] theorem maxA_v : maxA (.v (.int k x)) (.v (.int k' y)) = some (.v (.int k (max x y))) := by
  simp only [maxA, Option.some.injEq, AV.v.injEq, Value.int.injEq, true_and]; split <;> omega
@[go_sem] theorem sdiv_pos {x y : Int} (h : 0 ≤ x) : x.tdiv y = x / y := Int.tdiv_eq_ediv_of_nonneg h
@[go_sem] theorem smod_pos {x y : Int} (h : 0 ≤ x) : x.tmod y = x % y := Int.tmod_eq_emod_of_nonneg h
@[go_sem] theorem fdiv_pos {x y : Int} (h : 0 ≤ y) : x.fdiv y = x / y := Int.fdiv_eq_ediv_of_nonneg x h

/-! ### Booleans, strings, pointers -/
def boolD (op : BinOp) (u : Option TypeDesc) (x y : Bool) : Option AV :=
  match u, op with
  | some .bool, .eql => some (.b (x == y))
  | some .bool, .neq => some (.b (!(x == y)))
  | _, _ => none
@[go_sem] theorem bin_bool {op : BinOp} {a b : Bool} : bin P op xt (.v (.bool a)) (.v (.bool b)) = boolD op (P.underlying xt) a b := by
  unfold bin boolD; rfl
@[go_sem] theorem boolD_eql {a b : Bool} : boolD .eql (some .bool) a b = some (.v (.bool (a == b))) := rfl
@[go_sem] theorem boolD_neq {a b : Bool} : boolD .neq (some .bool) a b = some (.v (.bool (a != b))) := rfl
theorem toList_mk (l : List UInt8) : ByteArray.toList ⟨⟨l⟩⟩ = l := ByteArray.toList_eq _
theorem mk_append (a b : List UInt8) : (⟨⟨a⟩⟩ : ByteArray) ++ ⟨⟨b⟩⟩ = ⟨⟨a ++ b⟩⟩ := by
  have h : ∀ x y : ByteArray, x.data.toList = y.data.toList → x = y := by
    intro x y h; cases x; cases y; rename_i a b; cases a; cases b; simpa using h
  exact h _ _ (by simp)
@[go_sem] theorem bin_seql {a b : List UInt8} : bin P .eql xt (AV.str a) (AV.str b) = some (.v (.bool (decide (a = b)))) := by
  simp only [bin, AV.str, binS, toList_mk, Option.map_some, Option.some.injEq, AV.v.injEq, Value.bool.injEq]; exact Bool.eq_iff_iff.2 (by simp)
@[go_sem] theorem bin_sneq {a b : List UInt8} : bin P .neq xt (AV.str a) (AV.str b) = some (.v (.bool (decide (a ≠ b)))) := by
  simp only [bin, AV.str, binS, toList_mk, Option.map_some, Option.some.injEq, AV.v.injEq, Value.bool.injEq]; exact Bool.eq_iff_iff.2 (by simp)
@[go_sem] theorem bin_slss {a b : List UInt8} : bin P .lss xt (AV.str a) (AV.str b) = some (.v (.bool (Op.bytesLess a b))) := by simp only [bin, AV.str, binS, toList_mk, Option.map_some]
@[go_sem] theorem bin_sgtr {a b : List UInt8} : bin P .gtr xt (AV.str a) (AV.str b) = some (.v (.bool (!(Op.bytesLess a b || a == b)))) := by simp only [bin, AV.str, binS, toList_mk, Option.map_some]
@[go_sem] theorem bin_sleq {a b : List UInt8} : bin P .leq xt (AV.str a) (AV.str b) = some (.v (.bool (Op.bytesLess a b || a == b))) := by simp only [bin, AV.str, binS, toList_mk, Option.map_some]
@[go_sem] theorem bin_sgeq {a b : List UInt8} : bin P .geq xt (AV.str a) (AV.str b) = some (.v (.bool (!(Op.bytesLess a b)))) := by simp only [bin, AV.str, binS, toList_mk, Option.map_some]
@[go_sem] theorem bin_sadd {a b : List UInt8} (h : (a.length + b.length : Int) ≤ 140737488355328) : bin P .add xt (AV.str a) (AV.str b) = some (AV.str (a ++ b)) := by
  have h' : (⟨⟨a⟩⟩ : ByteArray).size + (⟨⟨b⟩⟩ : ByteArray).size ≤ 140737488355328 := by
    show a.length + b.length ≤ _
    omega
  simp only [bin, AV.str, binS, if_pos h', Option.map_some, mk_append]

/-! ### Conversions -/
def convD (P : Program) (u v : Option TypeDesc) (a : AV) : Option AV :=
  match u, v, a with
  | some _, some (.int k), .v (.int _ n) => some (.v (.int k (k.wrap n)))
  | some _, some .string, .v (.string s) => some (.s s)
  | some (.slice e), some .string, .sl xs =>
    match P.underlying e with
    | some (.int .u8) => (bytesOfA xs).map .s
    | _ => none
  | some .string, some (.slice e), .v (.string s) =>
    match P.underlying e with
    | some (.int .u8) => some (strA s)
    | _ => none
  | _, _, _ => none
@[go_sem] theorem conv_D {s d : TypeId} {a : AV} : conv P s d a = convD P (P.underlying s) (P.underlying d) a := rfl
@[go_sem] theorem convD_int {u : TypeDesc} : convD P (some u) (some (.int k)) (.v (.int k' x)) = some (.v (.int k (k.wrap x))) := by
  cases u <;> rfl
@[go_sem] theorem convD_str {u : TypeDesc} {l : List UInt8} : convD P (some u) (some .string) (AV.str l) = some (AV.str l) := by
  cases u <;> rfl
def byteD : Option TypeDesc → Option AV → Option AV
  | some (.int .u8), a => a
  | _, _ => none
@[go_sem] theorem byteD_u8 {a : Option AV} : byteD (some (.int .u8)) a = a := rfl
theorem byteOfA_byteA (b : UInt8) : byteOfA (byteA b) = some b := by
  simp [byteOfA, byteA]
theorem bytesOfA_map (l : List UInt8) : bytesOfA (l.map byteA) = some ⟨⟨l⟩⟩ := by
  unfold bytesOfA
  rw [List.mapM_map]
  have : ∀ l : List UInt8, List.mapM (byteOfA ∘ byteA) l = some l := by
    intro l
    induction l with
    | nil => rfl
    | cons b l ih => rw [List.mapM_cons]; simp [byteOfA_byteA, ih]
  rw [this]; rfl
@[go_sem] theorem convD_bytes {el : TypeId} {l : List UInt8} : convD P (some (.slice el)) (some .string) (.sl (l.map byteA)) = byteD (P.underlying el) (some (AV.str l)) := by
  unfold convD byteD
  simp only [bytesOfA_map, Option.map_some]
  split <;> simp_all [AV.str]
@[go_sem] theorem convD_bytes0 {el : TypeId} : convD P (some (.slice el)) (some .string) (.sl []) = byteD (P.underlying el) (some (AV.str [])) := convD_bytes (l := [])
@[go_sem] theorem convD_toBytes {el : TypeId} {l : List UInt8} : convD P (some .string) (some (.slice el)) (AV.str l) = byteD (P.underlying el) (some (.sl (l.map byteA))) := by
  unfold convD byteD AV.str
  simp only [strA]
  split <;> simp_all

/-! ### Places -/
theorem idx_ok {n : Nat} {i : Int} (h0 : 0 ≤ i) (h1 : i < n) : idx n i = some i.toNat := by simp [idx, h0, h1]
def idxStrD : Option TypeDesc → Option AV → Option AV
  | some .string, a => a
  | _, _ => none
def indexD (P : Program) (u : Option TypeDesc) (x i : AV) : Option AV :=
  match u, x, i with
  | some .string, .v (.string s), .v (.int _ i) => (idx s.size i).bind fun k => (s.data[k]?).map byteA
  | some (.array len e), .agg cs, .v (.int _ i) => (idx len i).bind fun k => (sizeT P e).bind fun n => partA P e cs (k * n)
  | _, _, _ => none
@[go_sem] theorem index_D {t : TypeId} {x i : AV} : indexA P t x i = indexD P (P.underlying t) x i := rfl
@[go_sem] theorem indexD_str {l : List UInt8} {i : Int} (h0 : 0 ≤ i) (h1 : i < l.length) : indexD P (some .string) (AV.str l) (.v (.int k i)) = some (byteA (ix l i)) := by
  have h2 : i.toNat < l.length := by omega
  show ((idx l.length i).bind fun k => (l.toArray[k]?).map byteA) = _
  rw [idx_ok h0 h1]
  simp [ix, h2]
@[go_sem] theorem indexD_arr {len : Nat} {el : TypeId} {cs : List AV} {i : Int} (h0 : 0 ≤ i) (h1 : i < len) : indexD P (some (.array len el)) (.agg cs) (.v (.int k i)) = (sizeT P el).bind fun n => partA P el cs (i.toNat * n) := by
  show ((idx len i).bind fun k => (sizeT P el).bind fun n => partA P el cs (k * n)) = _
  rw [idx_ok h0 h1]; rfl
def indexAddrD (P : Program) (u : Option TypeDesc) (x i : AV) : Option AV :=
  match u, x, i with
  | some (.slice e), .sl xs, .v (.int _ i) => (idx xs.length i).bind fun k => (xs[k]?).bind fun a => if sizeT P e = some a.cells.length then some (.ea a 0) else none
  | some (.slice e), .mr j off len n _, .v (.int _ i) => (idx len i).bind fun k => if sizeT P e = some n then some (.ptr j (off + k * n)) else none
  | some (.array len e), .ptr j off, .v (.int _ i) => (idx len i).bind fun k => (sizeT P e).map fun n => .ptr j (off + k * n)
  | some (.array len e), .ea a off, .v (.int _ i) => (idx len i).bind fun k => (sizeT P e).map fun n => .ea a (off + k * n)
  | _, _, _ => none
@[go_sem] theorem indexAddr_D {t : TypeId} {x i : AV} : indexAddrA P t x i = indexAddrD P (P.underlying t) x i := rfl
def sizeD (a b : Option Nat) (x : AV) : Option AV := if a = b then some x else none
@[go_sem] theorem sizeD_same {n : Nat} {x : AV} : sizeD (some n) (some n) x = some x := by simp [sizeD]
@[go_sem] theorem indexAddrD_map {α : Type} [Inhabited α] {f : α → AV} {n : Nat} [hf : CellsN f n] {xs : List α} {el : TypeId} {i : Int} (h0 : 0 ≤ i) (h1 : i < xs.length) :
    indexAddrD P (some (.slice el)) (.sl (xs.map f)) (.v (.int k i)) = sizeD (sizeT P el) (some n) (.ea (f (ix xs i)) 0) := by
  have h2 : i.toNat < xs.length := by omega
  unfold indexAddrD sizeD
  simp only
  rw [idx_ok h0 (by simpa using h1)]
  simp [ix, h2, hf.h]
@[go_sem] theorem indexAddrD_mr {el : TypeId} {j off len n : Nat} {g : Bool} {i : Int} (h0 : 0 ≤ i) (h1 : i < len) : indexAddrD P (some (.slice el)) (.mr j off len n g) (.v (.int k i)) = sizeD (sizeT P el) (some n) (.ptr j (off + i.toNat * n)) := by
  unfold indexAddrD; simp only; rw [idx_ok h0 h1]; rfl
@[go_sem] theorem indexAddrD_ptr {len j off : Nat} {el : TypeId} {i : Int} (h0 : 0 ≤ i) (h1 : i < len) : indexAddrD P (some (.array len el)) (.ptr j off) (.v (.int k i)) = (sizeT P el).map fun n => .ptr j (off + i.toNat * n) := by
  unfold indexAddrD; simp only; rw [idx_ok h0 h1]; rfl
@[go_sem] theorem indexAddrD_ea {len off : Nat} {a : AV} {el : TypeId} {i : Int} (h0 : 0 ≤ i) (h1 : i < len) : indexAddrD P (some (.array len el)) (.ea a off) (.v (.int k i)) = (sizeT P el).map fun n => .ea a (off + i.toNat * n) := by
  unfold indexAddrD; simp only; rw [idx_ok h0 h1]; rfl

def partD (g : Option Bool) (s : Option Nat) (cs : List AV) (off : Nat) : Option AV :=
  match g, s with
  | some true, some n => if off + n ≤ cs.length then some (.agg ((cs.drop off).take n)) else none
  | some false, _ => cs[off]?
  | _, _ => none
@[go_sem] theorem partA_D {t : TypeId} {cs : List AV} {off : Nat} : partA P t cs off = partD (isAggT P t) (sizeT P t) cs off := rfl
@[go_sem] theorem partD_zero {s : Option Nat} {a : AV} {cs : List AV} : partD (some false) s (a :: cs) 0 = some a := rfl
@[go_sem] theorem partD_succ {s : Option Nat} {a : AV} {cs : List AV} {n : Nat} : partD (some false) s (a :: cs) (n + 1) = partD (some false) s cs n := rfl
@[go_sem] theorem partD_skip {m : Nat} {a : AV} {cs : List AV} {n : Nat} : partD (some true) (some m) (a :: cs) (n + 1) = partD (some true) (some m) cs n := by
  unfold partD; simp only [List.length_cons, List.drop_succ_cons]
  by_cases h : n + m ≤ cs.length
  · rw [if_pos h, if_pos (by omega)]
  · rw [if_neg h, if_neg (by omega)]
@[go_sem] theorem partD_all {n : Nat} {cs : List AV} : partD (some true) (some n) cs 0 = if n ≤ cs.length then some (.agg (cs.take n)) else none := by simp [partD]
@[go_sem] theorem loadA_ea {t : TypeId} {a : AV} {off : Nat} : loadA P H t (.ea a off) = partA P t a.cells off := rfl
def plainD (cs : List AV) (x : Option AV) : Option AV := if plainRow cs = true then x else none
theorem plainD_of {cs : List AV} {x : Option AV} (h : plainRow cs = true) : plainD cs x = x := if_pos h
@[go_sem] theorem plainD_nil {x : Option AV} : plainD [] x = x := rfl
@[go_sem] theorem plainD_two {a b : AV} {l : List AV} {x : Option AV} : plainD (a :: b :: l) x = x := plainD_of (by unfold plainRow; cases a <;> rfl)
@[go_sem] theorem plainD_v {y : Value} {x : Option AV} : plainD [.v y] x = x := rfl
@[go_sem] theorem plainD_str {l : List UInt8} {x : Option AV} : plainD [AV.str l] x = x := rfl
@[go_sem] theorem plainD_byte {b : UInt8} {x : Option AV} : plainD [byteA b] x = x := rfl
@[go_sem] theorem plainD_sl {l : List AV} {x : Option AV} : plainD [.sl l] x = x := rfl
@[go_sem] theorem plainD_ow {l : List AV} {j : Nat} {x : Option AV} : plainD [.ow l j] x = x := rfl
@[go_sem] theorem plainD_ptr {j off : Nat} {x : Option AV} : plainD [.ptr j off] x = x := rfl
@[go_sem] theorem plainD_ea {a : AV} {off : Nat} {x : Option AV} : plainD [.ea a off] x = x := rfl
@[go_sem] theorem plainD_mp {j : Nat} {x : Option AV} : plainD [.mp j] x = x := rfl
@[go_sem] theorem plainD_mr {j off len n : Nat} {g : Bool} {x : Option AV} : plainD [.mr j off len n g] x = x := rfl
@[go_sem] theorem plainD_fn {f : FuncId} {l : List AV} {x : Option AV} : plainD [.fn f l] x = x := rfl
@[go_sem] theorem loadA_ptr {t : TypeId} {j off : Nat} : loadA P H t (.ptr j off) = (H[j]?).bind fun cs => plainD cs (partA P t cs off) := rfl
@[go_sem] theorem cells_v {x : Value} : AV.cells (.v x) = [.v x] := rfl
@[go_sem] theorem cells_str {l : List UInt8} : AV.cells (AV.str l) = [AV.str l] := rfl
@[go_sem] theorem cells_byte {b : UInt8} : AV.cells (byteA b) = [byteA b] := rfl
@[go_sem] theorem cells_sl {xs : List AV} : AV.cells (.sl xs) = [.sl xs] := rfl
@[go_sem] theorem cells_agg {xs : List AV} : AV.cells (.agg xs) = xs := rfl
@[go_sem] theorem cells_ptr {j off : Nat} : AV.cells (.ptr j off) = [.ptr j off] := rfl
@[go_sem] theorem cells_fn {f : FuncId} {cs : List AV} : AV.cells (.fn f cs) = [.fn f cs] := rfl

/-! ### len, min, max, append -/
def lenD (u : Option TypeDesc) (a : AV) : Option AV :=
  match u, a with
  | some .string, .v (.string s) => some (.i s.size)
  | some (.slice _), .sl xs => some (.i xs.length)
  | some (.slice _), .mr _ _ len _ _ => some (.i len)
  | some (.slice _), .v x => if isNilV x = true then some (.i 0) else none
  | _, _ => none
@[go_sem] theorem builtin_len {t : TypeId} {a : AV} : builtinA P .len [t] [a] = lenD (P.underlying t) a := by
  cases a with
  | v x =>
    show (match P.underlying t, x with | some .string, .string s => some (AV.i s.size) | some (.slice _), x => if isNilV x = true then some (AV.i 0) else none | _, _ => none) = _
    generalize P.underlying t = u
    cases u with
    | none => rfl
    | some u => cases u <;> first | rfl | (cases x <;> rfl)
  | sl xs => show (match P.underlying t with | some (.slice _) => some (AV.i xs.length) | _ => none) = _; generalize P.underlying t = u; cases u with | none => rfl | some u => cases u <;> rfl
  | mr j off len n g => show (match P.underlying t with | some (.slice _) => some (AV.i len) | _ => none) = _; generalize P.underlying t = u; cases u with | none => rfl | some u => cases u <;> rfl
  | _ => unfold lenD; simp [builtinA]
@[go_sem] theorem lenD_nilA {el : TypeId} : lenD (some (.slice el)) nilA = some (.v (.int .i64 0)) := rfl
@[go_sem] theorem lenD_str {l : List UInt8} : lenD (some .string) (AV.str l) = some (.v (.int .i64 l.length)) := rfl
@[go_sem] theorem lenD_map {α : Type} {f : α → AV} {xs : List α} {el : TypeId} : lenD (some (.slice el)) (.sl (xs.map f)) = some (.v (.int .i64 xs.length)) := by simp [lenD]
@[go_sem] theorem lenD_mr {el : TypeId} {j off len n : Nat} {g : Bool} : lenD (some (.slice el)) (.mr j off len n g) = some (.v (.int .i64 len)) := rfl
@[go_sem] theorem lenD_nil {el : TypeId} : lenD (some (.slice el)) (.sl []) = some (.v (.int .i64 0)) := by simp [lenD]
@[go_sem] theorem builtin_min {ts : List TypeId} {a b : AV} : builtinA P .min ts [a, b] = minA a b := rfl
@[go_sem] theorem builtin_max {ts : List TypeId} {a b : AV} : builtinA P .max ts [a, b] = maxA a b := rfl
end
end Go.Lv
set_option linter.unusedVariables false
set_option linter.unusedSimpArgs false
/-! append, building, slicing, for rewriting. -/
namespace Go.Lv
section
variable {P : Program} {e : Env} {H : Heap} {k k' : IntKind} {x y : Int}

/-! ### append -/
def appendD (P : Program) (u v : Option TypeDesc) (a b : AV) : Option AV :=
  match u, v, a, b with
  | some (.slice e), some (.slice _), .sl xs, .sl ys =>
    match sizeT P e, bytesT P e, zeroA P e with
    | some n, some by_, some z => if 0 < n ∧ z.length = n ∧ (xs.length + ys.length) * (by_ + 1) ≤ 140737488355328 ∧ (∀ a ∈ xs, a.cells.length = n) ∧ (∀ a ∈ ys, a.cells.length = n) then some (.sl (xs ++ ys)) else none
    | _, _, _ => none
  | some (.slice e), some .string, .sl xs, .v (.string s) =>
    match sizeT P e, bytesT P e, zeroA P e with
    | some 1, some 1, some [_] => if (xs.length + s.size) * 2 ≤ 140737488355328 ∧ (∀ a ∈ xs, a.cells.length = 1) then some (.sl (xs ++ s.data.toList.map byteA)) else none
    | _, _, _ => none
  | _, _, _, _ => none
@[go_sem] theorem builtin_append_sl {t u : TypeId} {xs ys : List AV} : builtinA P .append [t, u] [.sl xs, .sl ys] = appendD P (P.underlying t) (P.underlying u) (.sl xs) (.sl ys) := by
  show (match P.underlying t, P.underlying u with
    | some (.slice e), some (.slice _) =>
      match sizeT P e, bytesT P e, zeroA P e with
      | some n, some by_, some z => if 0 < n ∧ z.length = n ∧ (xs.length + ys.length) * (by_ + 1) ≤ 140737488355328 ∧ (∀ a ∈ xs, a.cells.length = n) ∧ (∀ a ∈ ys, a.cells.length = n) then some (AV.sl (xs ++ ys)) else none
      | _, _, _ => none
    | _, _ => none) = _
  generalize P.underlying t = a; generalize P.underlying u = b
  cases a with
  | none => rfl
  | some a =>
    cases a with
    | slice el => cases b with
      | none => rfl
      | some b => cases b <;> rfl
    | _ => rfl
@[go_sem] theorem builtin_append_str {t u : TypeId} {xs : List AV} {l : List UInt8} : builtinA P .append [t, u] [.sl xs, AV.str l] = appendD P (P.underlying t) (P.underlying u) (.sl xs) (AV.str l) := by
  show (match P.underlying t, P.underlying u with
    | some (.slice e), some .string =>
      match sizeT P e, bytesT P e, zeroA P e with
      | some 1, some 1, some [_] => if (xs.length + l.length) * 2 ≤ 140737488355328 ∧ (∀ a ∈ xs, a.cells.length = 1) then some (AV.sl (xs ++ l.map byteA)) else none
      | _, _, _ => none
    | _, _ => none) = _
  generalize P.underlying t = a; generalize P.underlying u = b
  cases a with
  | none => rfl
  | some a =>
    cases a with
    | slice el => cases b with
      | none => rfl
      | some b => cases b <;> rfl
    | _ => rfl
/-- Room for so many elements: size, bytes, what stands there at first. -/
def roomD (n : Nat) (s b : Option Nat) (z : Option (List AV)) (len : Int) (r : AV) : Option AV :=
  match s, b, z with
  | some m, some by_, some z => if m = n ∧ 0 < n ∧ z.length = n ∧ len * (by_ + 1) ≤ 140737488355328 then some r else none
  | _, _, _ => none
@[go_sem] theorem roomD_ok {n by_ : Nat} {z : List AV} {len : Int} {r : AV} (h0 : (0 : Int) < n) (h1 : (z.length : Int) = n) (h : len * (by_ + 1) ≤ 140737488355328) : roomD n (some n) (some by_) (some z) len r = some r := by
  have h2 : z.length = n := by omega
  have h3 : 0 < n := by omega
  unfold roomD
  simp only
  simp only [true_and]
  rw [if_pos ⟨h3, h2, h⟩]
def nD (n : Nat) (s : Option Nat) (a : Option AV) : Option AV := if s = some n then a else none
@[go_sem] theorem nD_same {n : Nat} {a : Option AV} : nD n (some n) a = a := by simp [nD]
theorem appendD_n {n : Nat} {xs ys : List AV} {el el' : TypeId} (hx : ∀ a ∈ xs, a.cells.length = n) (hy : ∀ a ∈ ys, a.cells.length = n) (h : sizeT P el = some n) :
    appendD P (some (.slice el)) (some (.slice el')) (.sl xs) (.sl ys) = roomD n (sizeT P el) (bytesT P el) (zeroA P el) (xs.length + ys.length) (.sl (xs ++ ys)) := by
  unfold appendD roomD
  simp only [h]
  cases bytesT P el with
  | none => rfl
  | some by_ =>
    cases zeroA P el with
    | none => rfl
    | some z =>
      have hc : ((xs.length : Int) + ys.length) * (by_ + 1) ≤ 140737488355328 ↔ (xs.length + ys.length) * (by_ + 1) ≤ 140737488355328 := by
        rw [show ((xs.length : Int) + ys.length) * (by_ + 1) = (((xs.length + ys.length) * (by_ + 1) : Nat) : Int) by push_cast; rfl]
        omega
      simp only [true_and, hc, show (∀ a ∈ xs, a.cells.length = n) ↔ True from iff_true_intro hx, show (∀ a ∈ ys, a.cells.length = n) ↔ True from iff_true_intro hy, and_true]
theorem map_cells {α : Type} {f : α → AV} {n : Nat} [hf : CellsN f n] (xs : List α) : ∀ a ∈ xs.map f, a.cells.length = n := by
  intro a ha
  obtain ⟨x, _, rfl⟩ := List.mem_map.1 ha
  exact hf.h x

/-! ### Types, known by instances -/
class UndIs (P : Program) (t : TypeId) (d : outParam TypeDesc) : Prop where
  h : P.underlying t = some d
class SizeIs (P : Program) (t : TypeId) (n : outParam Nat) : Prop where
  h : sizeT P t = some n
class BytesIs (P : Program) (t : TypeId) (n : outParam Nat) : Prop where
  h : bytesT P t = some n
class ZeroIs (P : Program) (t : TypeId) (z : outParam (List AV)) : Prop where
  h : zeroA P t = some z
class AggIs (P : Program) (t : TypeId) (b : outParam Bool) : Prop where
  h : isAggT P t = some b
@[go_sem] theorem und_is {t : TypeId} {d : TypeDesc} [h : UndIs P t d] : P.underlying t = some d := h.h
@[go_sem] theorem size_is {t : TypeId} {n : Nat} [h : SizeIs P t n] : sizeT P t = some n := h.h
@[go_sem] theorem bytes_is {t : TypeId} {n : Nat} [h : BytesIs P t n] : bytesT P t = some n := h.h
@[go_sem] theorem zero_is {t : TypeId} {z : List AV} [h : ZeroIs P t z] : zeroA P t = some z := h.h
@[go_sem] theorem agg_is {t : TypeId} {b : Bool} [h : AggIs P t b] : isAggT P t = some b := h.h

/-- Elements that may stand in memory. -/
class OneOK {α : Type} (f : α → AV) : Prop where
  h : ∀ x, (f x).cells.all AV.one = true
instance : OneOK (fun n : Int => AV.v (.int .i64 n)) := ⟨fun _ => rfl⟩
instance : OneOK (fun n : Bool => AV.v (.bool n)) := ⟨fun _ => rfl⟩
instance : OneOK AV.str := ⟨fun _ => rfl⟩
instance : OneOK byteA := ⟨fun _ => rfl⟩
instance : OneOK AV.bytes := ⟨fun _ => rfl⟩

/-- Rows of one kind laid behind each other. -/
@[go_sem] theorem append_map {α : Type} {f : α → AV} {n : Nat} [hf : CellsN f n] {xs ys : List α} {el el' : TypeId} [h : SizeIs P el n] :
    appendD P (some (.slice el)) (some (.slice el')) (.sl (xs.map f)) (.sl (ys.map f)) = roomD n (sizeT P el) (bytesT P el) (zeroA P el) (xs.length + ys.length) (.sl ((xs ++ ys).map f)) := by
  rw [appendD_n (map_cells xs) (map_cells ys) h.h]
  simp
@[go_sem] theorem append_one {α : Type} {f : α → AV} {n : Nat} [hf : CellsN f n] {xs : List α} {y : α} {el el' : TypeId} [h : SizeIs P el n] :
    appendD P (some (.slice el)) (some (.slice el')) (.sl (xs.map f)) (.sl [f y]) = roomD n (sizeT P el) (bytesT P el) (zeroA P el) (xs.length + 1) (.sl ((xs ++ [y]).map f)) := by
  have := append_map (P := P) (f := f) (xs := xs) (ys := [y]) (el := el) (el' := el')
  simpa using this
@[go_sem] theorem append_byte {xs : List UInt8} {n : Int} {el el' : TypeId} [h : SizeIs P el 1] (h0 : 0 ≤ n) (h1 : n < 256) :
    appendD P (some (.slice el)) (some (.slice el')) (.sl (xs.map byteA)) (.sl [.v (.int .u8 n)]) = roomD 1 (sizeT P el) (bytesT P el) (zeroA P el) (xs.length + 1) (.sl ((xs ++ [UInt8.ofNat n.toNat]).map byteA)) := by
  have hb : AV.v (.int .u8 n) = byteA (UInt8.ofNat n.toNat) := by
    have : (UInt8.ofNat n.toNat).toNat = n.toNat := by simp [UInt8.toNat_ofNat']; omega
    unfold byteA
    rw [this]
    congr; omega
  rw [hb]
  exact append_one
@[go_sem] theorem append_str {xs l : List UInt8} {el : TypeId} [h1 : SizeIs P el 1] [h2 : BytesIs P el 1] :
    appendD P (some (.slice el)) (some .string) (.sl (xs.map byteA)) (AV.str l) = roomD 1 (sizeT P el) (bytesT P el) (zeroA P el) (xs.length + l.length) (.sl ((xs ++ l).map byteA)) := by
  show (match sizeT P el, bytesT P el, zeroA P el with
      | some 1, some 1, some [_] => if ((xs.map byteA).length + l.length) * 2 ≤ 140737488355328 ∧ (∀ a ∈ xs.map byteA, a.cells.length = 1) then some (AV.sl (xs.map byteA ++ l.map byteA)) else none
      | _, _, _ => none) = _
  rw [h1.h, h2.h]
  simp only [show (∀ a ∈ xs.map byteA, a.cells.length = 1) ↔ True from iff_true_intro (map_cells xs), and_true, List.length_map, roomD, true_and, Nat.lt_add_one, Nat.zero_lt_one]
  cases zeroA P el with
  | none => rfl
  | some z =>
    cases z with
    | nil => simp
    | cons a z =>
      cases z with
      | nil =>
        have hc : ((xs.length : Int) + l.length) * (((1 : Nat) : Int) + 1) ≤ 140737488355328 ↔ (xs.length + l.length) * 2 ≤ 140737488355328 := by omega
        simp only [hc, List.length_singleton, true_and, List.map_append]
      | cons b z => simp
/-- Behind nothing. -/
@[go_sem] theorem append_nil {α : Type} {f : α → AV} {n : Nat} [hf : CellsN f n] {ys : List α} {el el' : TypeId} [h : SizeIs P el n] :
    appendD P (some (.slice el)) (some (.slice el')) (.sl []) (.sl (ys.map f)) = roomD n (sizeT P el) (bytesT P el) (zeroA P el) ys.length (.sl (ys.map f)) := by
  have := append_map (P := P) (f := f) (xs := []) (ys := ys) (el := el) (el' := el')
  simpa using this
@[go_sem] theorem append_same {α : Type} {f : α → AV} {n : Nat} [hf : CellsN f n] {xs : List α} {el el' : TypeId} [h : SizeIs P el n] :
    appendD P (some (.slice el)) (some (.slice el')) (.sl (xs.map f)) (.sl []) = roomD n (sizeT P el) (bytesT P el) (zeroA P el) xs.length (.sl (xs.map f)) := by
  have := append_map (P := P) (f := f) (xs := xs) (ys := []) (el := el) (el' := el')
  simpa using this

/-! ### Literals of slices -/
def goodParts (n i len : Nat) : List (Nat × AV) → Bool
  | [] => i == len
  | (j, a) :: r => j == i && (a.cells.length == n && (a.cells.all AV.one && goodParts n (i + 1) len r))
def okD (c : Bool) (r : AV) : Option AV := bif c then some r else none
@[go_sem] theorem okD_true {r : AV} : okD true r = some r := rfl
theorem goodParts_ok {n len : Nat} : ∀ (l : List (Nat × AV)) (i : Nat), goodParts n i len l = true ↔ i + l.length = len ∧ l.map (·.1) = List.range' i l.length ∧ ∀ p ∈ l, p.2.cells.length = n ∧ p.2.cells.all AV.one = true := by
  intro l
  induction l with
  | nil => intro i; simp [goodParts]
  | cons p l ih =>
    intro i
    obtain ⟨j, a⟩ := p
    simp only [goodParts, Bool.and_eq_true, beq_iff_eq, ih, List.length_cons, List.map_cons, List.range'_succ, List.cons.injEq, List.forall_mem_cons]
    constructor
    · rintro ⟨h1, h2, h3, h4, h5, h6⟩; exact ⟨by omega, ⟨h1, h5⟩, ⟨h2, h3⟩, h6⟩
    · rintro ⟨h4, ⟨h1, h5⟩, ⟨h2, h3⟩, h6⟩; exact ⟨h1, h2, h3, by omega, h5, h6⟩
@[go_sem] theorem buildSlice_is {t el : TypeId} {n len : Nat} {z : List AV} [hu : UndIs P t (.slice el)] [hs : SizeIs P el n] [hz : ZeroIs P el z] {parts : List (Nat × AV)} (h0 : (0 : Int) < n) (hl : (len : Int) * n ≤ 65536) (hzl : (z.length : Int) = n) :
    buildSliceA P t len parts = okD (goodParts n 0 len parts) (.sl (parts.map (·.2))) := by
  have e1 : (elemOfT P t) = some el := by unfold elemOfT; rw [hu.h]
  unfold buildSliceA
  rw [e1]
  simp only [Option.bind_some, hs.h, hz.h, Option.map_some]
  have h1 : z.length = n := by omega
  have h2 : 0 < n := by omega
  have h3 : len * n ≤ 65536 := by
    have : ((len * n : Nat) : Int) ≤ 65536 := by push_cast; exact hl
    omega
  simp only [h1, h2, h3, true_and, and_true]
  unfold okD
  have h4 := goodParts_ok (n := n) (len := len) parts 0
  by_cases hg : goodParts n 0 len parts = true
  · rw [hg]
    obtain ⟨h5, h6, h7⟩ := h4.1 hg
    rw [if_pos]; rfl
    refine ⟨?_, h7⟩
    rw [h6, List.range_eq_range']; congr 1; omega
  · rw [if_neg]
    · simp [hg]
    · rintro ⟨h5, h7⟩
      refine hg (h4.2 ⟨?_, ?_, h7⟩)
      · have := congrArg List.length h5
        simp at this; omega
      · have := congrArg List.length h5
        simp at this
        rw [h5, this, List.range_eq_range']
def cellsOK (n : Nat) (a : AV) : Bool := a.cells.length == n && a.cells.all AV.one
@[go_sem] theorem goodParts_nil {n i len : Nat} : goodParts n i len [] = (i == len) := rfl
@[go_sem] theorem goodParts_cons {n i len j : Nat} {a : AV} {r : List (Nat × AV)} : goodParts n i len ((j, a) :: r) = (j == i && (cellsOK n a && goodParts n (i + 1) len r)) := by
  simp [goodParts, cellsOK, Bool.and_assoc]
@[go_sem] theorem cellsOK_v {x : Value} : cellsOK 1 (.v x) = true := rfl
@[go_sem] theorem cellsOK_str {l : List UInt8} : cellsOK 1 (AV.str l) = true := rfl
@[go_sem] theorem cellsOK_byte {b : UInt8} : cellsOK 1 (byteA b) = true := rfl
@[go_sem] theorem cellsOK_sl {xs : List AV} : cellsOK 1 (.sl xs) = true := rfl
@[go_sem] theorem cellsOK_fn {f : FuncId} {xs : List AV} : cellsOK 1 (.fn f xs) = true := rfl
@[go_sem] theorem cellsOK_ptr {j off : Nat} : cellsOK 1 (.ptr j off) = true := rfl
theorem cellsOK_of {α : Type} {f : α → AV} {n : Nat} [hf : CellsN f n] [ho : OneOK f] (x : α) : cellsOK n (f x) = true := by
  simp [cellsOK, hf.h x, ho.h x]
attribute [go_sem] Nat.sub_zero Nat.zero_add Nat.add_zero Nat.mul_one or_true Int.toNat_natCast Bool.not_true Bool.not_false List.take_length List.drop_zero Bool.or_false Bool.false_or Bool.or_true Bool.true_or beq_self_eq_true Bool.true_and Bool.and_true Bool.false_and Bool.and_false Nat.reduceAdd
/-! ### Slices -/
@[go_sem] theorem bound_none {n d : Nat} : bound n none d = some d := rfl
@[go_sem] theorem bound_some {n d : Nat} {i : Int} (h0 : 0 ≤ i) (h1 : i ≤ n) : bound n (some (.v (.int k i))) d = some i.toNat := by simp [bound, h0, h1]
@[go_sem] theorem slice_str {t : TypeId} {l : List UInt8} {lo hi : Option AV} [hu : UndIs P t .string] :
    sliceA P t (AV.str l) lo hi none = (bound l.length hi l.length).bind fun h => (bound h lo 0).bind fun b => some (AV.str ((l.take h).drop b)) := by
  unfold sliceA
  rw [hu.h]
  show ((bound l.length hi l.length).bind fun h => (bound h lo 0).bind fun b => some (AV.s ((⟨⟨l⟩⟩ : ByteArray).extract b h))) = _
  congr 1; funext h; congr 1; funext b
  have hx : ∀ x y : ByteArray, x.data.toList = y.data.toList → x = y := by
    intro x y h; cases x; cases y; rename_i a b; cases a; cases b; simpa using h
  have : (⟨⟨l⟩⟩ : ByteArray).extract b h = ⟨⟨(l.take h).drop b⟩⟩ := hx _ _ (by simp [List.extract_eq_take_drop, List.drop_take])
  rw [this]; rfl
@[go_sem] theorem slice_map {α : Type} {f : α → AV} {n : Nat} [hf : CellsN f n] {t el : TypeId} [hu : UndIs P t (.slice el)] [hs : SizeIs P el n] {xs : List α} {lo hi : Option AV} (hn : (0 : Int) < n) :
    sliceA P t (.sl (xs.map f)) lo hi none = (bound xs.length hi xs.length).bind fun h => (bound h lo 0).bind fun b => some (.sl (((xs.take h).drop b).map f)) := by
  unfold sliceA
  rw [hu.h]
  simp only [hs.h, Option.bind_some]
  rw [if_pos ⟨by omega, map_cells xs⟩]
  simp
attribute [go_sem] Option.bind_some
/-! ### Bytes as numbers -/
@[go_sem] theorem bin_byte1 {op : BinOp} {t : TypeId} {b : UInt8} {a : AV} : bin P op t (byteA b) a = bin P op t (.v (.int .u8 b.toNat)) a := rfl
@[go_sem] theorem bin_byte2 {op : BinOp} {t : TypeId} {b : UInt8} {v : Value} : bin P op t (.v v) (byteA b) = bin P op t (.v v) (.v (.int .u8 b.toNat)) := rfl
@[go_sem] theorem convD_byte {u v : Option TypeDesc} {b : UInt8} : convD P u v (byteA b) = convD P u v (.v (.int .u8 b.toNat)) := rfl
@[go_sem] theorem minA_byte {a b : UInt8} : minA (byteA a) (byteA b) = minA (.v (.int .u8 a.toNat)) (.v (.int .u8 b.toNat)) := rfl
/-! ### Rows that may be written -/
@[go_sem] theorem viewR_sl {t : TypeId} {xs : List AV} : viewR P H t (.sl xs) = .sl xs := rfl
@[go_sem] theorem viewR_ow {t : TypeId} {xs : List AV} {j : Nat} : viewR P H t (.ow xs j) = .sl xs := rfl
@[go_sem] theorem viewR_bytes {t : TypeId} {l : List UInt8} : viewR P H t (AV.bytes l) = .sl (l.map byteA) := rfl
@[go_sem] theorem viewR_nilA {t : TypeId} : viewR P H t nilA = .sl [] := rfl
@[go_sem] theorem viewR_str {t : TypeId} {l : List UInt8} : viewR P H t (AV.str l) = AV.str l := rfl
/-! ### The first environment -/
@[go_sem] theorem env0_zero {a : AV} {l : List AV} : env0 (a :: l) 0 = a := rfl
@[go_sem] theorem env0_succ {a : AV} {l : List AV} {n : Nat} : env0 (a :: l) (n + 1) = env0 l n := rfl
end
attribute [go_sem] and_self and_true true_and reduceIte Nat.reduceEqDiff Nat.reduceMul Nat.reduceSub Nat.reduceBEq Int.reduceNeg Int.reduceAdd Int.reduceSub Int.reduceMul Int.reduceToNat Int.reduceLT Int.reduceLE Int.reduceEq Int.reduceNe Int.reducePow Nat.reducePow Nat.reduceLT reduceCtorEq
end Go.Lv
set_option linter.unusedVariables false
set_option linter.unusedSimpArgs false
/-! Rows that may be written, of elements of one cell, in steps. -/
namespace Go.Lv
section
variable {P : Program} {H : Heap}

/-- An encoding of one cell without parts. -/
class Cell1 {α : Type} (f : α → AV) : Prop where
  c : ∀ x, (f x).cells = [f x]
  o : ∀ x, (f x).one = true
instance : Cell1 (fun n : Int => AV.v (.int .i64 n)) := ⟨fun _ => rfl, fun _ => rfl⟩
instance : Cell1 byteA := ⟨fun _ => rfl, fun _ => rfl⟩
instance : Cell1 AV.str := ⟨fun _ => rfl, fun _ => rfl⟩

theorem flatMap_cell1 {α : Type} {f : α → AV} [hf : Cell1 f] (xs : List α) : (xs.map f).flatMap AV.cells = xs.map f := by
  induction xs with
  | nil => rfl
  | cons x xs ih => simp [hf.c x, ih]
theorem all_cell1 {α : Type} {f : α → AV} [hf : Cell1 f] (xs : List α) : (xs.map f).all AV.one = true := by
  simp [List.all_eq_true, hf.o]

theorem appendM_nil {α : Type} {f : α → AV} [hf : Cell1 f] {t u el el' : TypeId} {by_ : Nat} {z : List AV} [ht : UndIs P t (.slice el)] [hu : UndIs P u (.slice el')] [hs : SizeIs P el 1] [hb : BytesIs P el by_] [hz : ZeroIs P el z] [ha : AggIs P el false]
    {ys : List α} (hzl : z.length = 1) (h0 : 0 < ys.length) (hle : (ys.length : Int) * (by_ + 1) ≤ 140737488355328) :
    appendM P H t u nilA (.sl (ys.map f)) = some (.mr H.length 0 ys.length 1 false, H ++ [ys.map f]) := by
  rw [appendM_cons (by simpa using h0)]
  unfold appendM1 nilA
  rw [ht.h, hu.h]
  simp only [hs.h, hb.h, hz.h, ha.h]
  have h1 : ∀ a ∈ ys.map f, a.cells.length = 1 ∧ a.cells.all AV.one = true := by
    intro a h
    obtain ⟨x, _, rfl⟩ := List.mem_map.1 h
    rw [hf.c]; simp [hf.o]
  have h2 : ys.length * (by_ + 1) ≤ 140737488355328 := by
    have : ((ys.length * (by_ + 1) : Nat) : Int) = (ys.length : Int) * (by_ + 1) := by push_cast; rfl
    omega
  rw [if_pos ⟨by omega, hzl, h1, by simpa using h0⟩, if_pos ⟨rfl, by rw [List.length_map]; exact h2⟩, flatMap_cell1, List.length_map]

theorem appendM_mr {α : Type} {f : α → AV} [hf : Cell1 f] {t u el el' : TypeId} {by_ : Nat} {z : List AV} [ht : UndIs P t (.slice el)] [hu : UndIs P u (.slice el')] [hs : SizeIs P el 1] [hb : BytesIs P el by_] [hz : ZeroIs P el z] [ha : AggIs P el false]
    {xs ys : List α} {j len : Nat} (hj : H[j]? = some (xs.map f)) (hl : len ≤ xs.length) (hx : 0 < xs.length) (hzl : z.length = 1) (h0 : 0 < ys.length) (hle : ((len : Int) + ys.length) * (by_ + 1) ≤ 140737488355328) :
    appendM P H t u (.mr j 0 len 1 false) (.sl (ys.map f)) = some (.mr H.length 0 (len + ys.length) 1 false, H.set j [] ++ [(xs.take len ++ ys).map f]) := by
  rw [appendM_cons (by simpa using h0)]
  unfold appendM1
  rw [ht.h, hu.h]
  simp only [hs.h, hb.h, hz.h, ha.h]
  have h1 : ∀ a ∈ ys.map f, a.cells.length = 1 ∧ a.cells.all AV.one = true := by
    intro a h
    obtain ⟨x, _, rfl⟩ := List.mem_map.1 h
    rw [hf.c]; simp [hf.o]
  have h2 : (len + ys.length) * (by_ + 1) ≤ 140737488355328 := by
    have : (((len + ys.length) * (by_ + 1) : Nat) : Int) = ((len : Int) + ys.length) * (by_ + 1) := by push_cast; rfl
    omega
  rw [if_pos ⟨by omega, hzl, h1, by simpa using h0⟩]
  simp only [List.length_map, flatMap_cell1, hj, Option.bind_some, Nat.mul_one]
  rw [if_pos ⟨trivial, trivial, h2, hl, by (intro h; simp at h; rw [h] at hx; simp at hx), plainRow_one (all_cell1 xs), by rw [← List.map_take]; exact all_cell1 _⟩]
  simp

theorem appendM_none {t u el el' : TypeId} {n : Nat} [ht : UndIs P t (.slice el)] [hu : UndIs P u (.slice el')] [hs : SizeIs P el n] {j off len : Nat} {g : Bool} (hn : (0 : Int) < n) : appendM P H t u (.mr j off len n g) (.sl []) = some (.mr j off len n g, H) := by
  show appendM0 P H t u (.mr j off len n g) = _
  unfold appendM0
  rw [ht.h, hu.h]
  simp only [hs.h]
  rw [if_pos ⟨trivial, by omega⟩]
theorem chunk_one : ∀ (k : Nat) (cs : List AV), k ≤ cs.length → chunk false 1 k cs = cs.take k := by
  intro k
  induction k with
  | zero => intro cs _; simp [chunk]
  | succ k ih =>
    intro cs h
    cases cs with
    | nil => simp at h
    | cons c cs => simp only [chunk, List.headD_cons, List.drop_succ_cons, List.drop_zero, List.take_succ_cons]; rw [ih cs (by simpa using h)]; simp

theorem freeze_mr {α : Type} {f : α → AV} [hf : Cell1 f] {xs : List α} {j off len : Nat} (hj : H[j]? = some (xs.map f)) (h0 : 0 < len) (hl : off + len ≤ xs.length) :
    freezeA H (.mr j off len 1 false) = some (.sl (((xs.drop off).take len).map f), H.set j []) := by
  unfold freezeA
  simp only [hj, Option.bind_some, Nat.mul_one, List.length_map]
  rw [if_pos ⟨.inr trivial, h0, hl, all_cell1 xs⟩, chunk_one _ _ (by simp; omega)]
  simp
@[go_sem] theorem freeze_ow {xs : List AV} {j : Nat} : freezeA H (.ow xs j) = some (.sl xs, H) := rfl
@[go_sem] theorem freeze_nil : freezeA H nilA = some (.sl [], H) := rfl

theorem view_mr {α : Type} {f : α → AV} [hf : Cell1 f] {t el : TypeId} [ht : UndIs P t (.slice el)] [hs : SizeIs P el 1] [ha : AggIs P el false] {xs : List α} {j off len : Nat} (hj : H[j]? = some (xs.map f)) (h0 : 0 < len) (hl : off + len ≤ xs.length) :
    viewR P H t (.mr j off len 1 false) = .sl (((xs.drop off).take len).map f) := by
  have e : elemOfT P t = some el := by unfold elemOfT; rw [ht.h]
  simp only [viewR, e, hj]
  rw [if_pos ⟨ha.h, hs.h, .inr trivial, h0, by simpa using hl, all_cell1 xs⟩, chunk_one _ _ (by simp; omega)]
  simp

/-- A row of one-cell elements that may be written, held in memory from n on. -/
def RowOf {α : Type} (f : α → AV) (n : Nat) (H : Heap) (a : AV) (xs : List α) : Prop :=
  (a = nilA ∧ xs = []) ∨ ∃ j, n ≤ j ∧ a = .mr j 0 xs.length 1 false ∧ H[j]? = some (xs.map f) ∧ 0 < xs.length

section
variable {α : Type} {f : α → AV} {n : Nat} {a : AV} {xs : List α}
theorem RowOf.nil : RowOf f n H nilA [] := .inl ⟨rfl, rfl⟩
theorem RowOf.len (h : RowOf f n H a xs) {el : TypeId} : lenD (some (.slice el)) (owA a) = some (.v (.int .i64 xs.length)) := by
  rcases h with ⟨rfl, rfl⟩ | ⟨j, _, rfl, _, _⟩ <;> rfl
theorem RowOf.ow (h : RowOf f n H a xs) : owA a = a := by
  rcases h with ⟨rfl, rfl⟩ | ⟨j, _, rfl, _, _⟩ <;> rfl
theorem pre_set {H0 H' : Heap} (hp : H0 <+: H') {j : Nat} (hj : H0.length ≤ j) (cs cs' : List AV) : H0 <+: H'.set j cs ++ [cs'] := by
  obtain ⟨G, rfl⟩ := hp
  rw [List.set_append_right _ _ hj, List.append_assoc]
  exact ⟨_, rfl⟩
theorem pre_set1 {H0 H' : Heap} (hp : H0 <+: H') {j : Nat} (hj : H0.length ≤ j) (cs : List AV) : H0 <+: H'.set j cs := by
  obtain ⟨G, rfl⟩ := hp
  rw [List.set_append_right _ _ hj]
  exact ⟨_, rfl⟩
theorem pre_add {H0 H' : Heap} (hp : H0 <+: H') (cs : List AV) : H0 <+: H' ++ [cs] := List.IsPrefix.trans hp (List.prefix_append _ _)
theorem pre_len {H0 H' : Heap} (hp : H0 <+: H') : H0.length ≤ H'.length := hp.length_le
theorem get_end {H : Heap} {j : Nat} {cs cs' : List AV} : (H.set j cs ++ [cs'])[H.length]? = some cs' := by
  rw [List.getElem?_append_right (by simp)]; simp

theorem bind_append [hf : Cell1 f] {H0 : Heap} {t u el el' : TypeId} {by_ : Nat} {z : List AV} [ht : UndIs P t (.slice el)] [hu : UndIs P u (.slice el')] [hs : SizeIs P el 1] [hb : BytesIs P el by_] [hz : ZeroIs P el z] [ha : AggIs P el false]
    {ys : List α} {Q : AV × Heap → Prop} (hr : RowOf f H0.length H a xs) (hp : H0 <+: H) (hzl : z.length = 1) (h0 : 0 < ys.length) (hle : ((xs.length : Int) + ys.length) * (by_ + 1) ≤ 140737488355328)
    (hq : ∀ a' H', RowOf f H0.length H' a' (xs ++ ys) → H0 <+: H' → Q (a', H')) : @bindP _ (appendM P H t u a (.sl (ys.map f))) ⟨Q⟩ := by
  rcases hr with ⟨rfl, rfl⟩ | ⟨j, hj, rfl, hH, hx⟩
  · rw [appendM_nil hzl h0 (by simpa using hle), bindP_some]
    refine hq _ _ (.inr ⟨H.length, pre_len hp, by simp, ?_, by simpa using h0⟩) (pre_add hp _)
    rw [List.getElem?_append_right (by omega)]; simp
  · rw [appendM_mr hH (Nat.le_refl _) hx hzl h0 hle, bindP_some]
    refine hq _ _ (.inr ⟨H.length, pre_len hp, by simp, ?_, by simp; omega⟩) (pre_set hp hj _ _)
    rw [get_end, List.take_length]
/-- Behind a beginning of such a row. -/
theorem bind_cut [hf : Cell1 f] {H0 : Heap} {j m : Nat} {t u el el' : TypeId} {by_ : Nat} {z : List AV} [ht : UndIs P t (.slice el)] [hu : UndIs P u (.slice el')] [hs : SizeIs P el 1] [hb : BytesIs P el by_] [hz : ZeroIs P el z] [ha : AggIs P el false]
    {ys : List α} {Q : AV × Heap → Prop} (hp : H0 <+: H) (hj : H0.length ≤ j) (hH : H[j]? = some (xs.map f)) (hx : 0 < xs.length) (hm : m ≤ xs.length) (hzl : z.length = 1) (h0 : 0 < ys.length) (hle : ((m : Int) + ys.length) * (by_ + 1) ≤ 140737488355328)
    (hq : ∀ a' H', RowOf f H0.length H' a' (xs.take m ++ ys) → H0 <+: H' → Q (a', H')) : @bindP _ (appendM P H t u (.mr j 0 m 1 false) (.sl (ys.map f))) ⟨Q⟩ := by
  rw [appendM_mr hH hm hx hzl h0 hle, bindP_some]
  refine hq _ _ (.inr ⟨H.length, pre_len hp, ?_, ?_, by simp; omega⟩) (pre_set hp hj _ _)
  · congr 1
    simp; omega
  · rw [get_end]
theorem bind_freeze [hf : Cell1 f] {H0 : Heap} {Q : AV × Heap → Prop} (hr : RowOf f H0.length H a xs) (hp : H0 <+: H) (hq : ∀ H', H0 <+: H' → Q (.sl (xs.map f), H')) : @bindP _ (freezeA H a) ⟨Q⟩ := by
  rcases hr with ⟨rfl, rfl⟩ | ⟨j, hj, rfl, hH, hx⟩
  · rw [freeze_nil, bindP_some]; exact hq _ hp
  · rw [freeze_mr hH hx (by omega), bindP_some, List.drop_zero, List.take_length]
    exact hq _ (pre_set1 hp hj _)
end
@[go_sem] theorem slice_mr {t el : TypeId} {j off len n : Nat} {g : Bool} [ht : UndIs P t (.slice el)] [hs : SizeIs P el n] {lo hi : Option AV} :
    sliceA P t (.mr j off len n g) lo hi none = (bound len hi len).bind fun h => (bound h lo 0).bind fun l => some (if l < h ∨ l = 0 then .mr j (off + l * n) (h - l) n g else .sl []) := by
  unfold sliceA
  rw [ht.h]
  simp only [hs.h, if_true]
@[go_sem] theorem slice_nilA {t el : TypeId} {n : Nat} [ht : UndIs P t (.slice el)] [hs : SizeIs P el n] {lo hi : Option AV} :
    sliceA P t nilA lo hi none = (bound 0 hi 0).bind fun h => (bound h lo 0).bind fun _ => some nilA := by
  unfold sliceA nilA
  rw [ht.h]
  simp only [hs.h, Option.bind_some]
  rfl
theorem append_lit {α : Type} {f : α → AV} {n : Nat} [hf : CellsN f n] {x : α} {ys : List α} {el el' : TypeId} [h : SizeIs P el n] :
    appendD P (some (.slice el)) (some (.slice el')) (.sl [f x]) (.sl (ys.map f)) = roomD n (sizeT P el) (bytesT P el) (zeroA P el) (1 + ys.length) (.sl ((x :: ys).map f)) := by
  have := append_map (P := P) (f := f) (xs := [x]) (ys := ys) (el := el) (el' := el')
  simpa using this
@[go_sem] theorem append_int1 {x : Int} {ys : List Int} {el el' : TypeId} [h : SizeIs P el 1] :
    appendD P (some (.slice el)) (some (.slice el')) (.sl [.v (.int .i64 x)]) (.sl (ys.map fun n => AV.v (.int .i64 n))) = roomD 1 (sizeT P el) (bytesT P el) (zeroA P el) (1 + ys.length) (.sl ((x :: ys).map fun n => AV.v (.int .i64 n))) :=
  append_lit (f := fun n : Int => AV.v (.int .i64 n))
@[go_sem] theorem append_int0 {x : Int} {el el' : TypeId} [h : SizeIs P el 1] :
    appendD P (some (.slice el)) (some (.slice el')) (.sl [.v (.int .i64 x)]) (.sl []) = roomD 1 (sizeT P el) (bytesT P el) (zeroA P el) 1 (.sl ([x].map fun n => AV.v (.int .i64 n))) := by
  have := append_lit (P := P) (f := fun n : Int => AV.v (.int .i64 n)) (x := x) (ys := []) (el := el) (el' := el')
  simpa using this
end
end Go.Lv
set_option linter.unusedVariables false
set_option linter.unusedSimpArgs false
/-! Rows that are made, read and written, in steps. -/
namespace Go.Lv
section
variable {P : Program} {H : Heap} {α : Type} {f : α → AV}

theorem make_row [hf : Cell1 f] {t el : TypeId} {by_ : Nat} {z0 : α} [ht : UndIs P t (.slice el)] [hs : SizeIs P el 1] [hb : BytesIs P el by_] [ha : AggIs P el false] {l c : Int}
    (hz : zeroA P el = some [f z0]) (h0 : 0 ≤ l) (h1 : l ≤ c) (h2 : 0 < c) (h3 : c * (by_ + 1) ≤ 140737488355328) :
    makeA P H t (.v (.int .i64 l)) (.v (.int .i64 c)) = some (.mr H.length 0 l.toNat 1 false, H ++ [(List.replicate c.toNat z0).map f]) := by
  have e : elemOfT P t = some el := by unfold elemOfT; rw [ht.h]
  have h4 : c.toNat * (by_ + 1) ≤ 140737488355328 := by
    have : ((c.toNat * (by_ + 1) : Nat) : Int) = c * (by_ + 1) := by push_cast; rw [Int.toNat_of_nonneg (by omega)]
    omega
  unfold makeA
  simp only [e, hs.h, hb.h, hz, ha.h]
  rw [if_pos ⟨h0, h1, h2, h4, by omega, rfl⟩]
  congr 3
  congr 1
  apply List.ext_getElem?
  intro i
  simp only [Nat.mul_one, Nat.mod_one, List.map_replicate]
  rw [List.getElem?_map, List.getElem?_replicate]
  by_cases h : i < c.toNat
  · rw [List.getElem?_range h, if_pos h]; rfl
  · rw [if_neg h, List.getElem?_eq_none (by simp; omega)]; rfl

theorem load_row [hf : Cell1 f] {t : TypeId} [ha : AggIs P t false] {xs : List α} {j off : Nat} {x : α} (hj : H[j]? = some (xs.map f)) (hx : xs[off]? = some x) : loadA P H t (.ptr j off) = some (f x) := by
  unfold loadA
  simp only [hj, Option.bind_some]
  rw [if_pos (plainRow_one (all_cell1 xs))]
  unfold partA
  simp only [ha.h]
  rw [List.getElem?_map, hx]; rfl

theorem store_row [hf : Cell1 f] {t : TypeId} [hs : SizeIs P t 1] {xs : List α} {j off : Nat} {x : α} (hj : H[j]? = some (xs.map f)) (hx : off < xs.length) : storeA P H t (.ptr j off) (f x) = some (H.set j ((xs.set off x).map f)) := by
  unfold storeA
  simp only [hs.h, hj, Option.bind_some]
  rw [if_pos]
  · congr 2
    rw [hf.c, List.set_eq_take_append_cons_drop, if_pos hx]
    simp [List.map_take, List.map_drop]
  · refine ⟨by rw [hf.c]; rfl, by rw [hf.c]; simp [hf.o], by rw [List.length_map]; exact hx, by omega, plainRow_one (all_cell1 xs)⟩
theorem plainD_map [hf : Cell1 f] {xs : List α} {x : Option AV} : plainD (xs.map f) x = x := plainD_of (plainRow_one (all_cell1 xs))
theorem partD_map {xs : List α} {s : Option Nat} {n : Nat} : partD (some false) s (xs.map f) n = (xs[n]?).map f := by simp [partD]
theorem get_set {H : Heap} {j : Nat} {cs : List AV} (h : j < H.length) : (H.set j cs)[j]? = some cs := List.getElem?_set_self h
end
end Go.Lv
set_option linter.unusedVariables false
set_option linter.unusedSimpArgs false
/-! Slices whose spare room is their own, in steps. -/
namespace Go.Lv
section
variable {P : Program} {H : Heap} {α : Type} {f : α → AV} {k n : Nat} {a : AV} {xs : List α}

/-- A slice that grows at its own end: its mark is held in memory from n on. -/
def TokOf (f : α → AV) (k n : Nat) (H : Heap) (a : AV) (xs : List α) : Prop :=
  (a = nilA ∧ xs = []) ∨ ∃ j, n ≤ j ∧ a = .ow (xs.map f) j ∧ H[j]? = some [.tk (xs.length * k)] ∧ 0 < xs.length
theorem TokOf.nil : TokOf f k n H nilA [] := .inl ⟨rfl, rfl⟩
theorem TokOf.plain (h : TokOf f k n H a xs) : plainA a = .sl (xs.map f) := by
  rcases h with ⟨rfl, rfl⟩ | ⟨j, _, rfl, _, _⟩ <;> rfl
theorem TokOf.len (h : TokOf f k n H a xs) {el : TypeId} : lenD (some (.slice el)) (owA a) = some (.v (.int .i64 xs.length)) := by
  rcases h with ⟨rfl, rfl⟩ | ⟨j, _, rfl, _, _⟩
  · rfl
  · simp [owA, lenD]
theorem TokOf.view (h : TokOf f k n H a xs) {t : TypeId} : viewR P H t a = .sl (xs.map f) := by
  rcases h with ⟨rfl, rfl⟩ | ⟨j, _, rfl, _, _⟩ <;> rfl
theorem TokOf.one (h : TokOf f k n H a xs) : a.cells = [a] ∧ a.one = true := by
  rcases h with ⟨rfl, rfl⟩ | ⟨j, _, rfl, _, _⟩ <;> exact ⟨rfl, rfl⟩
/-- Memory that only grew, or in which other places were written. -/
theorem TokOf.pre {H' : Heap} (h : TokOf f k n H a xs) (hp : H <+: H') : TokOf f k n H' a xs := by
  rcases h with h | ⟨j, hj, rfl, hH, hx⟩
  · exact .inl h
  · refine .inr ⟨j, hj, rfl, ?_, hx⟩
    obtain ⟨G, rfl⟩ := hp
    rw [List.getElem?_append_left (List.getElem?_eq_some_iff.1 hH).1]; exact hH

theorem bind_appendT [hf : CellsN f k] {H0 : Heap} {t u el el' : TypeId} {by_ : Nat} {z : List AV} [ht : UndIs P t (.slice el)] [hu : UndIs P u (.slice el')] [hs : SizeIs P el k] [hb : BytesIs P el by_] [hz : ZeroIs P el z]
    {ys : List α} {Q : AV × Heap → Prop} (hr : TokOf f k H0.length H a xs) (hp : H0 <+: H) (hk : (0 : Int) < k) (hzl : (z.length : Int) = k) (h0 : 0 < ys.length) (hle : ((xs.length : Int) + ys.length) * (by_ + 1) ≤ 140737488355328)
    (hq : ∀ a' H', TokOf f k H0.length H' a' (xs ++ ys) → H0 <+: H' → Q (a', H')) : @bindP _ (appendT P H t u a (.sl (ys.map f))) ⟨Q⟩ := by
  have hle' : (xs.length + ys.length) * (by_ + 1) ≤ 140737488355328 := by
    have : (((xs.length + ys.length) * (by_ + 1) : Nat) : Int) = ((xs.length : Int) + ys.length) * (by_ + 1) := by push_cast; rfl
    omega
  have c1 : 0 < k ∧ z.length = k ∧ (∀ a ∈ ys.map f, a.cells.length = k) ∧ 0 < (ys.map f).length := ⟨by omega, by omega, map_cells ys, by simpa using h0⟩
  rcases hr with ⟨rfl, rfl⟩ | ⟨j, hj, rfl, hH, hx⟩
  · have e : appendT P H t u nilA (.sl (ys.map f)) = some (.ow (ys.map f) H.length, H ++ [[.tk (ys.length * k)]]) := by
      unfold appendT nilA
      rw [ht.h, hu.h]
      simp only [hs.h, hb.h, hz.h]
      rw [if_pos c1, if_pos ⟨rfl, by simpa using hle'⟩, List.length_map]
    rw [e, bindP_some]
    refine hq _ _ (.inr ⟨H.length, pre_len hp, by simp, ?_, by simpa using h0⟩) (pre_add hp _)
    rw [List.getElem?_append_right (Nat.le_refl _)]; simp
  · have e : appendT P H t u (.ow (xs.map f) j) (.sl (ys.map f)) = some (.ow ((xs ++ ys).map f) H.length, H.set j [] ++ [[.tk ((xs ++ ys).length * k)]]) := by
      unfold appendT
      rw [ht.h, hu.h]
      simp only [hs.h, hb.h, hz.h]
      rw [if_pos c1, if_pos ⟨by rw [hH]; simp [tkRow], by simpa using hle', map_cells xs, by simpa using hx⟩]
      simp
    rw [e, bindP_some]
    refine hq _ _ (.inr ⟨H.length, pre_len hp, rfl, ?_, by simp; omega⟩) (pre_set hp hj _ _)
    rw [get_end]
end
end Go.Lv
set_option linter.unusedVariables false
set_option linter.unusedSimpArgs false
/-! A closed call, run by the kernel: the same steps over a tree of variables. -/
namespace Go.Lv

/-- Variables in a tree. -/
inductive VTr where
  | leaf
  | node (a : AV) (l r : VTr)
def VTr.get : VTr → Nat → AV
  | .leaf, _ => .un
  | .node a l r, n => match n with
    | 0 => a
    | m + 1 => bif Nat.beq (m % 2) 0 then l.get (m / 2) else r.get (m / 2)
def VTr.set : Nat → VTr → Nat → AV → Option VTr
  | 0, _, _, _ => none
  | k + 1, t, n, x =>
    let (a, l, r) := match t with | .leaf => (AV.un, VTr.leaf, VTr.leaf) | .node a l r => (a, l, r)
    match n with
    | 0 => some (.node x l r)
    | m + 1 => bif Nat.beq (m % 2) 0 then (match VTr.set k l (m / 2) x with | some l => some (.node a l r) | none => none)
      else (match VTr.set k r (m / 2) x with | some r => some (.node a l r) | none => none)
theorem VTr.set_ok : ∀ (k : Nat) (t : VTr) (n : Nat) (x : AV) (t' : VTr), VTr.set k t n x = some t' → t'.get = upd t.get n x := by
  intro k
  induction k with
  | zero => intro t n x t' h; cases h
  | succ k ih =>
    intro t n x t' h
    have key : ∀ (a : AV) (l r : VTr), (match n with
        | 0 => some (VTr.node x l r)
        | m + 1 => bif Nat.beq (m % 2) 0 then (match VTr.set k l (m / 2) x with | some l => some (VTr.node a l r) | none => none)
          else (match VTr.set k r (m / 2) x with | some r => some (VTr.node a l r) | none => none)) = some t' → t'.get = upd (VTr.node a l r).get n x := by
      intro a l r h
      funext m
      cases n with
      | zero =>
        injection h with h; subst h
        cases m <;> simp [VTr.get, upd]
      | succ n =>
        simp only at h
        cases hb : Nat.beq (n % 2) 0 with
        | true =>
          rw [hb, cond_true] at h
          cases hs : VTr.set k l (n / 2) x with
          | none => rw [hs] at h; cases h
          | some l' =>
            rw [hs] at h
            injection h with h; subst h
            have := ih _ _ _ _ hs
            cases m with
            | zero => simp [VTr.get, upd]
            | succ m =>
              simp only [VTr.get]
              by_cases hmn : m = n
              · subst hmn
                rw [hb, cond_true, this]; simp [upd]
              · have hne : (m + 1 = n + 1) = False := by simp; exact hmn
                rw [upd, if_neg (by omega)]
                simp only [VTr.get]
                cases hm : Nat.beq (m % 2) 0 with
                | true =>
                  rw [cond_true, cond_true, this, upd, if_neg]
                  have h1 := Nat.eq_of_beq_eq_true hb
                  have h2 := Nat.eq_of_beq_eq_true hm
                  omega
                | false => rfl
        | false =>
          rw [hb, cond_false] at h
          cases hs : VTr.set k r (n / 2) x with
          | none => rw [hs] at h; cases h
          | some l' =>
            rw [hs] at h
            injection h with h; subst h
            have := ih _ _ _ _ hs
            cases m with
            | zero => simp [VTr.get, upd]
            | succ m =>
              simp only [VTr.get]
              by_cases hmn : m = n
              · subst hmn
                rw [hb, cond_false, this]; simp [upd]
              · rw [upd, if_neg (by omega)]
                simp only [VTr.get]
                cases hm : Nat.beq (m % 2) 0 with
                | true => rfl
                | false =>
                  rw [cond_false, cond_false, this, upd, if_neg]
                  have h1 := Nat.ne_of_beq_eq_false hb
                  have h2 := Nat.ne_of_beq_eq_false hm
                  omega
    cases t with
    | leaf =>
      have := key .un .leaf .leaf (by cases n <;> exact h)
      rw [this]
      funext m
      simp only [upd]
      split
      · rfl
      · cases m with
        | zero => rfl
        | succ m => simp [VTr.get]
    | node a l r => exact key a l r (by cases n <;> exact h)

def putX (t : VTr) : Option Nat → AV → Option VTr
  | some d, a => t.set 16 d a
  | none, _ => some t
theorem putX_ok {t t' : VTr} {d : Option Nat} {a : AV} (h : putX t d a = some t') : t'.get = put t.get d a := by
  cases d with
  | none => injection h with h; subst h; rfl
  | some d => exact VTr.set_ok _ _ _ _ _ h

/-! ### Values held against one another -/
def eqV : Value → Value → Bool
  | .int k x, .int k' y => decide (k = k') && x == y
  | .bool a, .bool b => a == b
  | .string a, .string b => a == b
  | .pointer none, .pointer none => true
  | .slice none 0 0, .slice none 0 0 => true
  | .map none, .map none => true
  | _, _ => false
theorem eqV_ok {x y : Value} (h : eqV x y = true) : x = y := by
  unfold eqV at h
  split at h
  · simp only [Bool.and_eq_true, decide_eq_true_eq, beq_iff_eq] at h
    rw [h.1, h.2]
  · simp at h; rw [h]
  · rw [(bytes_beq' _ _).1 h]
  · rfl
  · rfl
  · rfl
  · cases h
def eqL (f : AV → AV → Bool) : List AV → List AV → Bool
  | [], [] => true
  | a :: as_, b :: bs => f a b && eqL f as_ bs
  | _, _ => false
theorem eqL_ok {f : AV → AV → Bool} (hf : ∀ a b, f a b = true → a = b) : ∀ {as_ bs : List AV}, eqL f as_ bs = true → as_ = bs := by
  intro as_
  induction as_ with
  | nil => intro bs h; cases bs with
    | nil => rfl
    | cons b bs => cases h
  | cons a as_ ih => intro bs h; cases bs with
    | nil => cases h
    | cons b bs =>
      simp only [eqL, Bool.and_eq_true] at h
      rw [hf _ _ h.1, ih h.2]
def eqA : Nat → AV → AV → Bool
  | 0, _, _ => false
  | k + 1, .v x, .v y => eqV x y
  | k + 1, .ptr i o, .ptr i' o' => i == i' && o == o'
  | k + 1, .mp i, .mp i' => i == i'
  | k + 1, .mr j o l n g, .mr j' o' l' n' g' => j == j' && o == o' && l == l' && n == n' && g == g'
  | k + 1, .sl xs, .sl ys => eqL (eqA k) xs ys
  | k + 1, .agg xs, .agg ys => eqL (eqA k) xs ys
  | k + 1, .ow xs j, .ow ys j' => eqL (eqA k) xs ys && j == j'
  | _ + 1, _, _ => false
theorem eqA_ok : ∀ (k : Nat) (a b : AV), eqA k a b = true → a = b := by
  intro k
  induction k with
  | zero => intro a b h; cases h
  | succ k ih =>
    intro a b h
    unfold eqA at h
    split at h
    · contradiction
    · rw [eqV_ok h]
    · simp only [Bool.and_eq_true, beq_iff_eq] at h; rw [h.1, h.2]
    · simp only [beq_iff_eq] at h; rw [h]
    · simp only [Bool.and_eq_true, beq_iff_eq] at h
      obtain ⟨⟨⟨⟨h1, h2⟩, h3⟩, h4⟩, h5⟩ := h
      rw [h1, h2, h3, h4, h5]
    · rename_i h'; injection h' with h'; subst h'; rw [eqL_ok ih h]
    · rename_i h'; injection h' with h'; subst h'; rw [eqL_ok ih h]
    · rename_i h'; injection h' with h'; subst h'
      simp only [Bool.and_eq_true, beq_iff_eq] at h
      rw [eqL_ok ih h.1, h.2]
    · cases h
def eqO (a : Option AV) (b : AV) : Bool := match a with | some a => eqA 20 a b | none => false
theorem eqO_ok {a : Option AV} {b : AV} (h : eqO a b = true) : a = some b := by
  unfold eqO at h
  split at h
  · rw [eqA_ok _ _ _ h]
  · cases h

def seenX (P : Program) (all : Array Oper) (i : Nat) (e : Env) (S : Seen) (o : Op) (a : AV) (H H' : Heap) : Option Seen :=
  match o with
  | .load t p => bif S.snaps.all fun s => reachE all 8 i s.1 || eqO (loadA P s.2 t (ev e p)) a then some { S with loads := (i, t, ev e p, a) :: S.loads } else none
  | o => bif effOp o then (bif S.loads.all fun l => reachE all 8 i l.1 || eqO (loadA P H' l.2.1 l.2.2.1) l.2.2.2 then some { S with snaps := (i, H) :: S.snaps } else none) else some S
theorem seenX_ok {P : Program} {all : Array Oper} {i : Nat} {e : Env} {S S' : Seen} {o : Op} {a : AV} {H H' : Heap} (h : seenX P all i e S o a H H' = some S') : seenOK P all i e S o a H H' = some S' := by
  unfold seenX at h
  unfold seenOK
  split at h
  · rename_i t p
    simp only
    cases hc : S.snaps.all fun s => reachE all 8 i s.1 || eqO (loadA P s.2 t (ev e p)) a with
    | false => rw [hc] at h; cases h
    | true =>
      rw [hc] at h
      rw [if_pos]
      · exact h
      · intro s hs
        have := List.all_eq_true.1 hc s hs
        simp only [Bool.or_eq_true] at this
        exact this.imp id eqO_ok
  · rename_i hno
    have key : ∀ (o : Op) (n1 n2 : Option Seen), (∀ t p, o ≠ .load t p) → (bif effOp o then n1 else some S) = some S' → (n1 = some S' → n2 = some S') → (if effOp o = true then n2 else some S) = some S' := by
      intro o n1 n2 _ h1 h2
      cases he : effOp o with
      | false => rw [he] at h1; simpa using h1
      | true => rw [he] at h1; rw [if_pos rfl]; exact h2 (by simpa using h1)
    have key2 : (bif S.loads.all fun l => reachE all 8 i l.1 || eqO (loadA P H' l.2.1 l.2.2.1) l.2.2.2 then some { S with snaps := (i, H) :: S.snaps } else none) = some S' →
        (open Classical in if ∀ l ∈ S.loads, reachE all 8 i l.1 = true ∨ loadA P H' l.2.1 l.2.2.1 = some l.2.2.2 then some { S with snaps := (i, H) :: S.snaps } else none) = some S' := by
      intro hx'
      cases hc : S.loads.all fun l => reachE all 8 i l.1 || eqO (loadA P H' l.2.1 l.2.2.1) l.2.2.2 with
      | false => rw [hc] at hx'; cases hx'
      | true =>
        rw [hc] at hx'
        rw [if_pos]
        · exact hx'
        · intro s hs
          have := List.all_eq_true.1 hc s hs
          simp only [Bool.or_eq_true] at this
          exact this.imp id eqO_ok
    cases o <;> first | exact absurd rfl (hno _ _) | exact (hno _ _ rfl).elim | exact key _ _ _ (by intro t p h; cases h) h key2

/-! ### Values laid out -/
def nfI {β : Type} (n : Int) (k : Int → Option β) : Option β := match n with
  | .ofNat m => (match m with | 0 => k (.ofNat 0) | m + 1 => k (.ofNat (m + 1)))
  | .negSucc m => (match m with | 0 => k (.negSucc 0) | m + 1 => k (.negSucc (m + 1)))
theorem nfI_eq {β : Type} (n : Int) (k : Int → Option β) : nfI n k = k n := by
  unfold nfI
  split
  · split <;> rfl
  · split <;> rfl
def nfN {β : Type} (n : Nat) (k : Nat → Option β) : Option β := match n with | 0 => k 0 | m + 1 => k (m + 1)
theorem nfN_eq {β : Type} (n : Nat) (k : Nat → Option β) : nfN n k = k n := by
  unfold nfN
  split <;> rfl
def nf {β : Type} (a : AV) (k : AV → Option β) : Option β := match a with
  | .v (.int kd n) => nfI n fun n => k (.v (.int kd n))
  | .v (.bool true) => k (.v (.bool true))
  | .v (.bool false) => k (.v (.bool false))
  | .ptr j off => nfN j fun j => nfN off fun off => k (.ptr j off)
  | a => k a
theorem nf_eq {β : Type} (a : AV) (k : AV → Option β) : nf a k = k a := by
  unfold nf
  split
  · rw [nfI_eq]
  · rfl
  · rfl
  · rw [nfN_eq, nfN_eq]
  · rfl

/-! ### Code -/
def lopsX (P : Program) (C : Cfg) (call : CallF) (all : Array Oper) : List Oper → VTr → Heap → Option (VTr × Heap)
  | [], e, H => some (e, H)
  | o :: r, e, H =>
    match wants all e.get o with
    | none => none
    | some false => match putX e o.dst skipA with
      | some e' => lopsX P C call all r e' H
      | none => none
    | some true => match stepA P C call o.dst e.get H o.op with
      | some (a, H') => nf a fun a => match putX e o.dst a with
        | some e' => lopsX P C call all r e' H'
        | none => none
      | none => none
theorem lopsX_ok {P : Program} {C : Cfg} {c1 c2 : CallF} (hc : CLe c1 c2) (all : Array Oper) : ∀ (l : List Oper) (e : VTr) (H : Heap) e' H', lopsX P C c1 all l e H = some (e', H') → lops P C c2 all l e.get H = some (e'.get, H') := by
  intro l
  induction l with
  | nil => intro e H e' H' h; injection h with h; injection h with h1 h2; subst h1 h2; rfl
  | cons o l ih =>
    intro e H e' H' h
    unfold lopsX at h
    unfold lops
    split at h
    · cases h
    · rename_i hw
      rw [hw]
      split at h
      · rename_i e1 he1
        simp only
        rw [← putX_ok he1]
        exact ih _ _ _ _ h
      · cases h
    · rename_i hw
      rw [hw]
      split at h
      · rename_i a H1 hs
        rw [nf_eq] at h
        split at h
        · rename_i e1 he1
          simp only
          rw [stepA_mono hc hs, Option.bind_some, ← putX_ok he1]
          exact ih _ _ _ _ h
        · cases h
      · cases h

def lopsDX (P : Program) (C : Cfg) (call : CallF) (all : Array Oper) : Nat → List Oper → VTr → Heap → Seen → Option (VTr × Heap)
  | _, [], e, H, _ => some (e, H)
  | i, o :: r, e, H, S =>
    match wants all e.get o with
    | none => none
    | some false => match putX e o.dst skipA with
      | some e' => lopsDX P C call all (i + 1) r e' H S
      | none => none
    | some true => match stepA P C call o.dst e.get H o.op with
      | some (a, H') => nf a fun a => match seenX P all i e.get S o.op a H H' with
        | some S' => match putX e o.dst a with
          | some e' => lopsDX P C call all (i + 1) r e' H' S'
          | none => none
        | none => none
      | none => none
theorem lopsDX_ok {P : Program} {C : Cfg} {c1 c2 : CallF} (hc : CLe c1 c2) (all : Array Oper) : ∀ (l : List Oper) (i : Nat) (e : VTr) (H : Heap) (S : Seen) e' H', lopsDX P C c1 all i l e H S = some (e', H') → lopsD P C c2 all i l e.get H S = some (e'.get, H') := by
  intro l
  induction l with
  | nil => intro i e H S e' H' h; injection h with h; injection h with h1 h2; subst h1 h2; rfl
  | cons o l ih =>
    intro i e H S e' H' h
    unfold lopsDX at h
    unfold lopsD
    split at h
    · cases h
    · rename_i hw
      rw [hw]
      split at h
      · rename_i e1 he1
        simp only
        rw [← putX_ok he1]
        exact ih _ _ _ _ _ _ h
      · cases h
    · rename_i hw
      rw [hw]
      split at h
      · rename_i a H1 hs
        rw [nf_eq] at h
        split at h
        · rename_i S1 hS1
          split at h
          · rename_i e1 he1
            simp only
            rw [stepA_mono hc hs, Option.bind_some]
            simp only
            rw [seenX_ok hS1, Option.bind_some, ← putX_ok he1]
            exact ih _ _ _ _ _ _ h
          · cases h
        · cases h
      · cases h

def lcodeX (P : Program) (C : Cfg) (call : CallF) : Nat → Code → VTr → Heap → Option (Ex × VTr × Heap)
  | 0, _, _, _ => none
  | _ + 1, .skip, e, H => some (.normal, e, H)
  | _ + 1, .region _ ops false, e, H => match lopsX P C call ops ops.toList e H with
    | some (e, H) => some (.normal, e, H)
    | none => none
  | _ + 1, .region _ ops true, e, H => match lopsDX P C call ops 0 ops.toList e H {} with
    | some (e, H) => some (.normal, e, H)
    | none => none
  | n + 1, .seq a b, e, H =>
    match lcodeX P C call n a e H with
    | some (.normal, e, H) => lcodeX P C call n b e H
    | r => r
  | n + 1, .cond c a b, e, H =>
    match ev e.get c with
    | .v (.bool true) => lcodeX P C call n a e H
    | .v (.bool false) => lcodeX P C call n b e H
    | _ => none
  | n + 1, .block id a, e, H =>
    match lcodeX P C call n a e H with
    | some (.exit i, e, H) => bif Nat.beq i id then some (.normal, e, H) else some (.exit i, e, H)
    | r => r
  | n + 1, .loop a, e, H =>
    match lcodeX P C call n a e H with
    | some (.normal, e, H) => lcodeX P C call n (.loop a) e H
    | r => r
  | _ + 1, .exit id, e, H => some (.exit id, e, H)
  | _ + 1, .ret, e, H => some (.ret, e, H)
  | _ + 1, _, _, _ => none
theorem lcodeX_ok {P : Program} {C : Cfg} {c1 c2 : CallF} (hc : CLe c1 c2) : ∀ (n : Nat) (c : Code) (e : VTr) (H : Heap) x e' H', lcodeX P C c1 n c e H = some (x, e', H') → lcode P C c2 n c e.get H = some (x, e'.get, H') := by
  intro n
  induction n with
  | zero => intro c e H x e' H' h; cases h
  | succ n ih =>
    intro c e H x e' H' h
    cases c with
    | skip => injection h with h; injection h with h1 h; injection h with h2 h3; subst h1 h2 h3; rfl
    | region id ops d =>
      cases d with
      | false =>
        simp only [lcodeX] at h
        simp only [lcode]
        split at h
        · rename_i e1 H1 h1
          injection h with h; injection h with h2 h; injection h with h3 h4; subst h2 h3 h4
          rw [lopsX_ok hc _ _ _ _ _ _ h1]; rfl
        · cases h
      | true =>
        simp only [lcodeX] at h
        simp only [lcode]
        split at h
        · rename_i e1 H1 h1
          injection h with h; injection h with h2 h; injection h with h3 h4; subst h2 h3 h4
          rw [lopsDX_ok hc _ _ _ _ _ _ _ _ h1]; rfl
        · cases h
    | seq a b =>
      simp only [lcodeX] at h
      simp only [lcode]
      split at h
      · rename_i e1 H1 h1
        rw [ih _ _ _ _ _ _ h1]
        exact ih _ _ _ _ _ _ h
      · rename_i hne
        rw [ih _ _ _ _ _ _ h]
        cases x with
        | normal => exact absurd h (hne _ _)
        | exit i => rfl
        | ret => rfl
    | cond c a b =>
      simp only [lcodeX] at h
      simp only [lcode]
      split at h
      · rename_i hcv
        rw [hcv]
        simp only [if_pos]
        exact ih _ _ _ _ _ _ h
      · rename_i hcv
        rw [hcv]
        simp only [Bool.false_eq_true, if_false]
        exact ih _ _ _ _ _ _ h
      · cases h
    | block id a =>
      simp only [lcodeX] at h
      simp only [lcode]
      split at h
      · rename_i i e1 H1 h1
        rw [ih _ _ _ _ _ _ h1]
        simp only
        cases hb : Nat.beq i id with
        | true =>
          rw [hb, cond_true] at h
          injection h with h; injection h with h2 h; injection h with h3 h4; subst h2 h3 h4
          rw [if_pos (Nat.eq_of_beq_eq_true hb)]
        | false =>
          rw [hb, cond_false] at h
          injection h with h; injection h with h2 h; injection h with h3 h4; subst h2 h3 h4
          rw [if_neg (Nat.ne_of_beq_eq_false hb)]
      · rename_i hne
        rw [ih _ _ _ _ _ _ h]
        cases x with
        | normal => rfl
        | exit i => exact absurd h (hne _ _ _)
        | ret => rfl
    | loop a =>
      simp only [lcodeX] at h
      simp only [lcode]
      split at h
      · rename_i e1 H1 h1
        rw [ih _ _ _ _ _ _ h1]
        exact ih _ _ _ _ _ _ h
      · rename_i hne
        rw [ih _ _ _ _ _ _ h]
        cases x with
        | normal => exact absurd h (hne _ _)
        | exit i => rfl
        | ret => rfl
    | exit id => injection h with h; injection h with h1 h; injection h with h2 h3; subst h1 h2 h3; rfl
    | ret => injection h with h; injection h with h1 h; injection h with h2 h3; subst h1 h2 h3; rfl
    | _ => cases h

def trOf : Nat → List AV → VTr → Option VTr
  | _, [], t => some t
  | i, a :: as_, t => match putX t (some i) a with
    | some t => trOf (i + 1) as_ t
    | none => none
theorem trOf_ok : ∀ (as_ : List AV) (i : Nat) (t t' : VTr), trOf i as_ t = some t' → ∀ k, t'.get k = if i ≤ k ∧ k < i + as_.length then as_.getD (k - i) .un else t.get k := by
  intro as_
  induction as_ with
  | nil => intro i t t' h k; injection h with h; subst h; rw [if_neg (by simp)]
  | cons a as_ ih =>
    intro i t t' h k
    unfold trOf at h
    split at h
    · rename_i t1 h1
      rw [ih _ _ _ h k, putX_ok h1]
      simp only [put, upd, List.length_cons]
      by_cases hk : k = i
      · subst hk
        rw [if_neg (by omega), if_pos rfl, if_pos (by omega)]; simp
      · by_cases hk2 : i + 1 ≤ k ∧ k < i + 1 + as_.length
        · rw [if_pos hk2, if_pos (by omega), show k - i = (k - (i + 1)) + 1 by omega]; simp
        · rw [if_neg hk2, if_neg hk, if_neg (by omega)]
    · cases h
theorem trOf_env {args : List AV} {t : VTr} (h : trOf 0 args .leaf = some t) : t.get = env0 args := by
  funext k
  rw [trOf_ok _ _ _ _ h k]
  unfold env0
  split
  · simp
  · rename_i hk
    rw [List.getD_eq_getElem?_getD, List.getElem?_eq_none (by omega)]
    rfl

def lcallX (P : Program) (C : Cfg) : Nat → CallF
  | 0, _, _, _ => none
  | n + 1, f, args, H =>
    match C.ext f with
    | some g => g args H
    | none =>
      bif C.ok f then
        match P.funcs[f]? with
        | some fn => match fn.body with
          | some c => match trOf 0 args .leaf with
            | some t => match lcodeX P (C.at f) (lcallX P C n) n c t H with
              | some (.exit _, _, _) => none
              | some (_, e, H) => (resultsA P fn e.get H).map fun a => (a, H)
              | none => none
            | none => none
          | none => none
        | none => none
      else none
theorem lcallX_ok {P : Program} {C : Cfg} : ∀ n, CLe (lcallX P C n) (lcall P C n) := by
  intro n
  induction n with
  | zero => intro f a H r h; cases h
  | succ n ih =>
    intro f a H r h
    unfold lcallX at h
    unfold lcall
    split at h
    · rename_i g hg
      rw [hg]; exact h
    · rename_i hg
      rw [hg]
      simp only
      cases hk : C.ok f with
      | false => rw [hk] at h; cases h
      | true =>
        rw [hk, cond_true] at h
        rw [if_pos rfl]
        split at h
        · rename_i fn hf
          rw [hf]
          simp only
          split at h
          · rename_i c hb
            rw [hb]
            simp only
            split at h
            · rename_i t ht
              split at h
              · cases h
              · rename_i x e1 H1 hne hl
                have := lcodeX_ok ih _ _ _ _ _ _ _ hl
                rw [trOf_env ht] at this
                rw [this]
                cases x with
                | exit i => exact absurd rfl (hne i)
                | normal => exact h
                | ret => exact h
              · cases h
            · cases h
          · cases h
        · cases h

/-- A closed call: what it answers once it answers in any memory. -/
theorem closed_ok {P : Program} {C : Cfg} (W0 : World0 P C) {f : FuncId} {n : Nat} {b : Bool} {H' : Heap} (hsig : C.sig f = {}) (h : lcall P C n f [] [] = some (.b b, H')) {H : Heap} : CallOK P {} f [] H (.b b) H := by
  intro F L w vs hS hl hrel hown
  have hc := ((lcall_ok W0 n).ok f [] [] _ H' h).1
  rw [hsig] at hc
  have h0 : St P { get := fun _ _ => none, room := fun _ => 0 } [] NX w [] :=
    { mem := (by intro B i v h; cases h), len := rfl, obj := (by simp), lt := (by simp), nof := (by simp), nox := (by simp), inj := (by simp), xlt := (by intro B h; exact h.elim), room0 := (fun B h => rfl), mob := (by simp) }
  refine (hc _ [] w vs h0 hl (by intro k c hk; simp at hk) ⟨by intro k n hk; simp at hk, by intro j k n m hj; simp at hj⟩).mono ?_
  rintro e w' ⟨v, F', L', rfl, hR⟩
  have hv : v = .bool b := by
    have := hR.rel
    cases this; rfl
  subst hv
  have hb : Go.RowKit.Below w.heap.size w w' := by
    refine ⟨hR.goes.rest.1, hR.goes.rest.2.1, hR.goes.rest.2.2, hR.goes.size, fun k hk => ?_⟩
    refine (hR.goes.keep k hk ?_ (by simp)).1
    rintro ⟨j, n, hj, _⟩
    simp at hj
  obtain ⟨hS1, hg1⟩ := hS.below hb
  exact ⟨_, F, L, rfl, .sc _ rfl, hS1, hg1.weaken (fun _ _ h => h.elim), by simp, by simp⟩

def closedT (b : Bool) (H : Heap) : List AV → Option (AV × Heap)
  | [] => some (.b b, H)
  | _ => none
theorem closedT_ok {P : Program} {C : Cfg} (W0 : World0 P C) {f : FuncId} {n : Nat} {b : Bool} (hsig : C.sig f = {}) (h : ((lcallX P C n f [] []).map fun r => eqA 2 r.1 (.b b)) = some true) {args : List AV} {H : Heap} {r : AV} {H' : Heap} (hr : closedT b H args = some (r, H')) : CallOK P {} f args H r H' := by
  obtain ⟨⟨a, H1⟩, h1, h2⟩ := Option.map_eq_some_iff.1 h
  have := eqA_ok _ _ _ h2
  simp only at this
  subst this
  cases args with
  | nil =>
    injection hr with hr; injection hr with hr1 hr2; subst hr1 hr2
    exact closed_ok W0 hsig (lcallX_ok _ _ _ _ _ h1)
  | cons x xs => cases hr
end Go.Lv
