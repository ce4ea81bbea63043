/- A value semantics of the loaded code, its soundness, and walks through functions over it. -/
import Derived.Test.YtbfcbjmoijiffaaGreatLvAll7
import Derived.Laws.Strings
set_option linter.unusedVariables false
set_option linter.unusedSimpArgs false
/-! What operations give on lists of plain values, for rewriting. -/
namespace Go.Lv

/-- A string by its bytes. -/
def AV.str (l : List UInt8) : AV := .v (.string ⟨⟨l⟩⟩)
/-- A row of bytes. -/
def AV.bytes (l : List UInt8) : AV := .sl (l.map byteA)
/-- The element at a place. -/
def ix {α : Type} [Inhabited α] (xs : List α) (i : Int) : α := xs.getD i.toNat default

attribute [go_sem] decide_eq_true_eq decide_eq_false_iff_not Bool.not_eq_true' Bool.not_eq_false' List.map_cons List.map_nil Option.map_some Option.map_none decide_true decide_false

/-- Elements that fill so many cells. -/
class CellsN {α : Type} (f : α → AV) (n : outParam Nat) : Prop where
  h : ∀ x, (f x).cells.length = n
instance : CellsN (fun n : Int => AV.v (.int .i64 n)) 1 := ⟨fun _ => rfl⟩
instance : CellsN (fun n : Bool => AV.v (.bool n)) 1 := ⟨fun _ => rfl⟩
instance : CellsN AV.str 1 := ⟨fun _ => rfl⟩
instance : CellsN byteA 1 := ⟨fun _ => rfl⟩
instance : CellsN AV.bytes 1 := ⟨fun _ => rfl⟩

@[go_sem] theorem owA_str {l : List UInt8} : owA (AV.str l) = AV.str l := rfl
@[go_sem] theorem owA_byte {b : UInt8} : owA (byteA b) = byteA b := rfl
@[go_sem] theorem owA_nilA : owA nilA = nilA := rfl
@[go_sem] theorem plainA_str {l : List UInt8} : plainA (AV.str l) = AV.str l := rfl
@[go_sem] theorem plainA_byte {b : UInt8} : plainA (byteA b) = byteA b := rfl
/-- Elements that no mark is on. -/
class NoMark {α : Type} (f : α → AV) : Prop where
  o : ∀ x, owA (f x) = f x
  p : ∀ x, plainA (f x) = f x
instance : NoMark AV.bytes := ⟨fun _ => rfl, fun _ => rfl⟩
@[go_sem] theorem owA_bytes {l : List UInt8} : owA (AV.bytes l) = AV.bytes l := rfl
@[go_sem] theorem plainA_bytes {l : List UInt8} : plainA (AV.bytes l) = AV.bytes l := rfl

section
variable {P : Program} {e : Env} {H : Heap}

@[go_sem] theorem ev_str {l : List UInt8} : ev e (.const (.string { data := List.toArray l })) = AV.str l := rfl
@[go_sem] theorem ev_str0 : ev e (.const (.string ByteArray.empty)) = AV.str [] := rfl

/-! ### Integers -/
@[go_sem] theorem wrap_i64 {x : Int} (h1 : -9223372036854775808 ≤ x) (h2 : x < 9223372036854775808) : IntKind.wrap .i64 x = x := by
  simp only [IntKind.wrap, IntKind.signed, IntKind.bits] at *
  first
    | omega
    | (split <;> omega)
    | (simp; omega)
@[go_sem] theorem wrap_u32 {x : Int} (h1 : 0 ≤ x) (h2 : x < 4294967296) : IntKind.wrap .u32 x = x := by
  simp only [IntKind.wrap, IntKind.signed, IntKind.bits] at *
  first
    | omega
    | (split <;> omega)
    | (simp; omega)
@[go_sem] theorem wrap_u64 {x : Int} (h1 : 0 ≤ x) (h2 : x < 18446744073709551616) : IntKind.wrap .u64 x = x := by
  simp only [IntKind.wrap, IntKind.signed, IntKind.bits] at *
  first
    | omega
    | (split <;> omega)
    | (simp; omega)

@[go_sem] theorem wrap_byte_i64 {b : UInt8} : IntKind.wrap .i64 (b.toNat : Int) = b.toNat := by
  have := b.toNat_lt
  exact wrap_i64 (by omega) (by omega)
@[go_sem] theorem wrap_byte_u32 {b : UInt8} : IntKind.wrap .u32 (b.toNat : Int) = b.toNat := by
  have := b.toNat_lt
  exact wrap_u32 (by omega) (by omega)
variable {xt : TypeId} {k k' : IntKind} {x y : Int}
@[go_sem] theorem bin_add : bin P .add xt (.v (.int k x)) (.v (.int k y)) = some (.v (.int k (k.wrap (x + y)))) := by simp [bin, binI]
@[go_sem] theorem bin_sub : bin P .sub xt (.v (.int k x)) (.v (.int k y)) = some (.v (.int k (k.wrap (x - y)))) := by simp [bin, binI]
@[go_sem] theorem bin_mul : bin P .mul xt (.v (.int k x)) (.v (.int k y)) = some (.v (.int k (k.wrap (x * y)))) := by simp [bin, binI]
theorem bin_shl' (h : 0 ≤ y) : bin P .shl xt (.v (.int k x)) (.v (.int k' y)) = some (.v (.int k (k.wrap (x * 2 ^ (min y.toNat k.bits))))) := by simp [bin, Int.not_lt.2 h]
theorem bin_shr' (h : 0 ≤ y) : bin P .shr xt (.v (.int k x)) (.v (.int k' y)) = some (.v (.int k (x.fdiv (2 ^ (min y.toNat k.bits))))) := by simp [bin, Int.not_lt.2 h]
theorem fdiv_pow (x : Int) (n : Nat) : x.fdiv (2 ^ n) = x / 2 ^ n := Int.fdiv_eq_ediv_of_nonneg x (Int.le_of_lt (Int.pow_pos (by omega)))
@[go_sem] theorem bin_shl_i64 (h : 0 ≤ y) (h1 : y < 64) : bin P .shl xt (.v (.int .i64 x)) (.v (.int k' y)) = some (.v (.int .i64 (IntKind.wrap .i64 (x * 2 ^ y.toNat)))) := by
  rw [bin_shl' h, show min y.toNat (IntKind.bits .i64) = y.toNat from Nat.min_eq_left (by show y.toNat ≤ 64; omega)]
@[go_sem] theorem bin_shr_i64 (h : 0 ≤ y) (h1 : y < 64) : bin P .shr xt (.v (.int .i64 x)) (.v (.int k' y)) = some (.v (.int .i64 (x / 2 ^ y.toNat))) := by
  rw [bin_shr' h, show min y.toNat (IntKind.bits .i64) = y.toNat from Nat.min_eq_left (by show y.toNat ≤ 64; omega), fdiv_pow]
@[go_sem] theorem bin_shr_u32 (h : 0 ≤ y) (h1 : y < 32) : bin P .shr xt (.v (.int .u32 x)) (.v (.int k' y)) = some (.v (.int .u32 (x / 2 ^ y.toNat))) := by
  rw [bin_shr' h, show min y.toNat (IntKind.bits .u32) = y.toNat from Nat.min_eq_left (by show y.toNat ≤ 32; omega), fdiv_pow]
@[go_sem] theorem bin_eql : bin P .eql xt (.v (.int k x)) (.v (.int k y)) = some (.v (.bool (decide (x = y)))) := by
  simp only [bin, binI, if_true, Option.map_some, Option.some.injEq, AV.v.injEq, Value.bool.injEq]; exact Bool.eq_iff_iff.2 (by simp)
@[go_sem] theorem bin_neq : bin P .neq xt (.v (.int k x)) (.v (.int k y)) = some (.v (.bool (decide (x ≠ y)))) := by
  simp only [bin, binI, if_true, Option.map_some, Option.some.injEq, AV.v.injEq, Value.bool.injEq]; exact Bool.eq_iff_iff.2 (by simp)
@[go_sem] theorem bin_lss : bin P .lss xt (.v (.int k x)) (.v (.int k y)) = some (.v (.bool (decide (x < y)))) := by simp [bin, binI]
@[go_sem] theorem bin_leq : bin P .leq xt (.v (.int k x)) (.v (.int k y)) = some (.v (.bool (decide (x ≤ y)))) := by simp [bin, binI]
@[go_sem] theorem bin_gtr : bin P .gtr xt (.v (.int k x)) (.v (.int k y)) = some (.v (.bool (decide (y < x)))) := by simp [bin, binI]
@[go_sem] theorem bin_geq : bin P .geq xt (.v (.int k x)) (.v (.int k y)) = some (.v (.bool (decide (y ≤ x)))) := by simp [bin, binI]
@[go_sem] theorem un1_neg : un1 .neg (.v (.int k x)) = some (.v (.int k (k.wrap (0 - x)))) := rfl
@[go_sem] theorem un1_not {b : Bool} : un1 .not (.v (.bool b)) = some (.v (.bool (!b))) := rfl
@[go_sem] theorem decide_not_b {p : Prop} [Decidable p] : (!decide p) = decide (¬ p) := by by_cases h : p <;> simp [h]
@[go_sem] theorem minA_v : minA (.v (.int k x)) (.v (.int k' y)) = some (.v (.int k (min x y))) := by
  simp only [minA, Option.some.injEq, AV.v.injEq, Value.int.injEq, true_and]; split <;> omega
@[go_sem] theorem maxA_v : maxA (.v (.int k x)) (.v (.int k' y)) = some (.v (.int k (max x y))) := by
  simp only [maxA, Option.some.injEq, AV.v.injEq, Value.int.injEq, true_and]; split <;> omega
/-! ### Booleans, strings, pointers -/
def boolD (op : BinOp) (u : Option TypeDesc) (x y : Bool) : Option AV :=
  match u, op with
  | some .bool, .eql => some (.b (x == y))
  | some .bool, .neq => some (.b (!(x == y)))
  | _, _ => none
@[go_sem] theorem bin_bool {op : BinOp} {a b : Bool} : bin P op xt (.v (.bool a)) (.v (.bool b)) = boolD op (P.underlying xt) a b := by
  unfold bin boolD; rfl
@[go_sem] theorem boolD_eql {a b : Bool} : boolD .eql (some .bool) a b = some (.v (.bool (a == b))) := rfl
@[go_sem] theorem boolD_neq {a b : Bool} : boolD .neq (some .bool) a b = some (.v (.bool (a != b))) := rfl
theorem toList_mk (l : List UInt8) : ByteArray.toList ⟨⟨l⟩⟩ = l := ByteArray.toList_eq _
theorem mk_append (a b : List UInt8) : (⟨⟨a⟩⟩ : ByteArray) ++ ⟨⟨b⟩⟩ = ⟨⟨a ++ b⟩⟩ := by
  have h : ∀ x y : ByteArray, x.data.toList = y.data.toList → x = y := by
    intro x y h; cases x; cases y; rename_i a b; cases a; cases b; simpa using h
  exact h _ _ (by simp)
@[go_sem] theorem bin_seql {a b : List UInt8} : bin P .eql xt (AV.str a) (AV.str b) = some (.v (.bool (decide (a = b)))) := by
  simp only [bin, AV.str, binS, toList_mk, Option.map_some, Option.some.injEq, AV.v.injEq, Value.bool.injEq]; exact Bool.eq_iff_iff.2 (by simp)
@[go_sem] theorem bin_sneq {a b : List UInt8} : bin P .neq xt (AV.str a) (AV.str b) = some (.v (.bool (decide (a ≠ b)))) := by
  simp only [bin, AV.str, binS, toList_mk, Option.map_some, Option.some.injEq, AV.v.injEq, Value.bool.injEq]; exact Bool.eq_iff_iff.2 (by simp)
@[go_sem] theorem bin_slss {a b : List UInt8} : bin P .lss xt (AV.str a) (AV.str b) = some (.v (.bool (Op.bytesLess a b))) := by simp only [bin, AV.str, binS, toList_mk, Option.map_some]
@[go_sem] theorem bin_sadd {a b : List UInt8} (h : (a.length + b.length : Int) ≤ 140737488355328) : bin P .add xt (AV.str a) (AV.str b) = some (AV.str (a ++ b)) := by
  have h' : (⟨⟨a⟩⟩ : ByteArray).size + (⟨⟨b⟩⟩ : ByteArray).size ≤ 140737488355328 := by
    show a.length + b.length ≤ _
    omega
  simp only [bin, AV.str, binS, if_pos h', Option.map_some, mk_append]

/-! ### Conversions -/
def convD (P : Program) (u v : Option TypeDesc) (a : AV) : Option AV :=
  match u, v, a with
  | some _, some (.int k), .v (.int _ n) => some (.v (.int k (k.wrap n)))
  | some _, some .string, .v (.string s) => some (.s s)
  | some (.slice e), some .string, .sl xs =>
    match P.underlying e with
    | some (.int .u8) => (bytesOfA xs).map .s
    | _ => none
  | some .string, some (.slice e), .v (.string s) =>
    match P.underlying e with
    | some (.int .u8) => some (strA s)
    | _ => none
  | _, _, _ => none
@[go_sem] theorem conv_D {s d : TypeId} {a : AV} : conv P s d a = convD P (P.underlying s) (P.underlying d) a := rfl
@[go_sem] theorem convD_int {u : TypeDesc} : convD P (some u) (some (.int k)) (.v (.int k' x)) = some (.v (.int k (k.wrap x))) := by
  cases u <;> rfl
def byteD : Option TypeDesc → Option AV → Option AV
  | some (.int .u8), a => a
  | _, _ => none
@[go_sem] theorem byteD_u8 {a : Option AV} : byteD (some (.int .u8)) a = a := rfl
theorem byteOfA_byteA (b : UInt8) : byteOfA (byteA b) = some b := by
  simp [byteOfA, byteA]
theorem bytesOfA_map (l : List UInt8) : bytesOfA (l.map byteA) = some ⟨⟨l⟩⟩ := by
  unfold bytesOfA
  rw [List.mapM_map]
  have : ∀ l : List UInt8, List.mapM (byteOfA ∘ byteA) l = some l := by
    intro l
    induction l with
    | nil => rfl
    | cons b l ih => rw [List.mapM_cons]; simp [byteOfA_byteA, ih]
  rw [this]; rfl
/-! ### Places -/
theorem idx_ok {n : Nat} {i : Int} (h0 : 0 ≤ i) (h1 : i < n) : idx n i = some i.toNat := by simp [idx, h0, h1]
def indexD (P : Program) (u : Option TypeDesc) (x i : AV) : Option AV :=
  match u, x, i with
  | some .string, .v (.string s), .v (.int _ i) => (idx s.size i).bind fun k => (s.data[k]?).map byteA
  | some (.array len e), .agg cs, .v (.int _ i) => (idx len i).bind fun k => (sizeT P e).bind fun n => partA P e cs (k * n)
  | _, _, _ => none
@[go_sem] theorem index_D {t : TypeId} {x i : AV} : indexA P t x i = indexD P (P.underlying t) x i := rfl
@[go_sem] theorem indexD_str {l : List UInt8} {i : Int} (h0 : 0 ≤ i) (h1 : i < l.length) : indexD P (some .string) (AV.str l) (.v (.int k i)) = some (byteA (ix l i)) := by
  have h2 : i.toNat < l.length := by omega
  show ((idx l.length i).bind fun k => (l.toArray[k]?).map byteA) = _
  rw [idx_ok h0 h1]
  simp [ix, h2]
def indexAddrD (P : Program) (u : Option TypeDesc) (x i : AV) : Option AV :=
  match u, x, i with
  | some (.slice e), .sl xs, .v (.int _ i) => (idx xs.length i).bind fun k => (xs[k]?).bind fun a => if sizeT P e = some a.cells.length then some (.ea a 0) else none
  | some (.slice e), .mr j off len n _, .v (.int _ i) => (idx len i).bind fun k => if sizeT P e = some n then some (.ptr j (off + k * n)) else none
  | some (.array len e), .ptr j off, .v (.int _ i) => (idx len i).bind fun k => (sizeT P e).map fun n => .ptr j (off + k * n)
  | some (.array len e), .ea a off, .v (.int _ i) => (idx len i).bind fun k => (sizeT P e).map fun n => .ea a (off + k * n)
  | _, _, _ => none
@[go_sem] theorem indexAddr_D {t : TypeId} {x i : AV} : indexAddrA P t x i = indexAddrD P (P.underlying t) x i := rfl
def sizeD (a b : Option Nat) (x : AV) : Option AV := if a = b then some x else none
@[go_sem] theorem sizeD_same {n : Nat} {x : AV} : sizeD (some n) (some n) x = some x := by simp [sizeD]
@[go_sem] theorem indexAddrD_map {α : Type} [Inhabited α] {f : α → AV} {n : Nat} [hf : CellsN f n] {xs : List α} {el : TypeId} {i : Int} (h0 : 0 ≤ i) (h1 : i < xs.length) :
    indexAddrD P (some (.slice el)) (.sl (xs.map f)) (.v (.int k i)) = sizeD (sizeT P el) (some n) (.ea (f (ix xs i)) 0) := by
  have h2 : i.toNat < xs.length := by omega
  unfold indexAddrD sizeD
  simp only
  rw [idx_ok h0 (by simpa using h1)]
  simp [ix, h2, hf.h]
@[go_sem] theorem indexAddrD_mr {el : TypeId} {j off len n : Nat} {g : Bool} {i : Int} (h0 : 0 ≤ i) (h1 : i < len) : indexAddrD P (some (.slice el)) (.mr j off len n g) (.v (.int k i)) = sizeD (sizeT P el) (some n) (.ptr j (off + i.toNat * n)) := by
  unfold indexAddrD; simp only; rw [idx_ok h0 h1]; rfl
def partD (g : Option Bool) (s : Option Nat) (cs : List AV) (off : Nat) : Option AV :=
  match g, s with
  | some true, some n => if off + n ≤ cs.length then some (.agg ((cs.drop off).take n)) else none
  | some false, _ => cs[off]?
  | _, _ => none
@[go_sem] theorem partA_D {t : TypeId} {cs : List AV} {off : Nat} : partA P t cs off = partD (isAggT P t) (sizeT P t) cs off := rfl
@[go_sem] theorem partD_zero {s : Option Nat} {a : AV} {cs : List AV} : partD (some false) s (a :: cs) 0 = some a := rfl
@[go_sem] theorem partD_succ {s : Option Nat} {a : AV} {cs : List AV} {n : Nat} : partD (some false) s (a :: cs) (n + 1) = partD (some false) s cs n := rfl
@[go_sem] theorem partD_skip {m : Nat} {a : AV} {cs : List AV} {n : Nat} : partD (some true) (some m) (a :: cs) (n + 1) = partD (some true) (some m) cs n := by
  unfold partD; simp only [List.length_cons, List.drop_succ_cons]
  by_cases h : n + m ≤ cs.length
  · rw [if_pos h, if_pos (by omega)]
  · rw [if_neg h, if_neg (by omega)]
@[go_sem] theorem partD_all {n : Nat} {cs : List AV} : partD (some true) (some n) cs 0 = if n ≤ cs.length then some (.agg (cs.take n)) else none := by simp [partD]
@[go_sem] theorem loadA_ea {t : TypeId} {a : AV} {off : Nat} : loadA P H t (.ea a off) = partA P t a.cells off := rfl
def plainD (cs : List AV) (x : Option AV) : Option AV := if plainRow cs = true then x else none
theorem plainD_of {cs : List AV} {x : Option AV} (h : plainRow cs = true) : plainD cs x = x := if_pos h
@[go_sem] theorem plainD_nil {x : Option AV} : plainD [] x = x := rfl
@[go_sem] theorem plainD_two {a b : AV} {l : List AV} {x : Option AV} : plainD (a :: b :: l) x = x := plainD_of (by unfold plainRow; cases a <;> rfl)
@[go_sem] theorem plainD_v {y : Value} {x : Option AV} : plainD [.v y] x = x := rfl
@[go_sem] theorem plainD_str {l : List UInt8} {x : Option AV} : plainD [AV.str l] x = x := rfl
@[go_sem] theorem plainD_byte {b : UInt8} {x : Option AV} : plainD [byteA b] x = x := rfl
@[go_sem] theorem plainD_sl {l : List AV} {x : Option AV} : plainD [.sl l] x = x := rfl
@[go_sem] theorem plainD_ow {l : List AV} {j : Nat} {x : Option AV} : plainD [.ow l j] x = x := rfl
@[go_sem] theorem plainD_ptr {j off : Nat} {x : Option AV} : plainD [.ptr j off] x = x := rfl
@[go_sem] theorem plainD_ea {a : AV} {off : Nat} {x : Option AV} : plainD [.ea a off] x = x := rfl
@[go_sem] theorem plainD_mp {j : Nat} {x : Option AV} : plainD [.mp j] x = x := rfl
@[go_sem] theorem plainD_mr {j off len n : Nat} {g : Bool} {x : Option AV} : plainD [.mr j off len n g] x = x := rfl
@[go_sem] theorem plainD_fn {f : FuncId} {l : List AV} {x : Option AV} : plainD [.fn f l] x = x := rfl
@[go_sem] theorem loadA_ptr {t : TypeId} {j off : Nat} : loadA P H t (.ptr j off) = (H[j]?).bind fun cs => plainD cs (partA P t cs off) := rfl
@[go_sem] theorem cells_v {x : Value} : AV.cells (.v x) = [.v x] := rfl
@[go_sem] theorem cells_str {l : List UInt8} : AV.cells (AV.str l) = [AV.str l] := rfl
@[go_sem] theorem cells_byte {b : UInt8} : AV.cells (byteA b) = [byteA b] := rfl
@[go_sem] theorem cells_sl {xs : List AV} : AV.cells (.sl xs) = [.sl xs] := rfl
@[go_sem] theorem cells_agg {xs : List AV} : AV.cells (.agg xs) = xs := rfl
@[go_sem] theorem cells_ptr {j off : Nat} : AV.cells (.ptr j off) = [.ptr j off] := rfl
@[go_sem] theorem cells_fn {f : FuncId} {cs : List AV} : AV.cells (.fn f cs) = [.fn f cs] := rfl

/-! ### len, min, max, append -/
def lenD (u : Option TypeDesc) (a : AV) : Option AV :=
  match u, a with
  | some .string, .v (.string s) => some (.i s.size)
  | some (.slice _), .sl xs => some (.i xs.length)
  | some (.slice _), .mr _ _ len _ _ => some (.i len)
  | some (.slice _), .v x => if isNilV x = true then some (.i 0) else none
  | _, _ => none
@[go_sem] theorem builtin_len {t : TypeId} {a : AV} : builtinA P .len [t] [a] = lenD (P.underlying t) a := by
  cases a with
  | v x =>
    show (match P.underlying t, x with | some .string, .string s => some (AV.i s.size) | some (.slice _), x => if isNilV x = true then some (AV.i 0) else none | _, _ => none) = _
    generalize P.underlying t = u
    cases u with
    | none => rfl
    | some u => cases u <;> first | rfl | (cases x <;> rfl)
  | sl xs => show (match P.underlying t with | some (.slice _) => some (AV.i xs.length) | _ => none) = _; generalize P.underlying t = u; cases u with | none => rfl | some u => cases u <;> rfl
  | mr j off len n g => show (match P.underlying t with | some (.slice _) => some (AV.i len) | _ => none) = _; generalize P.underlying t = u; cases u with | none => rfl | some u => cases u <;> rfl
  | _ => unfold lenD; simp [builtinA]
@[go_sem] theorem lenD_nilA {el : TypeId} : lenD (some (.slice el)) nilA = some (.v (.int .i64 0)) := rfl
@[go_sem] theorem lenD_str {l : List UInt8} : lenD (some .string) (AV.str l) = some (.v (.int .i64 l.length)) := rfl
@[go_sem] theorem lenD_map {α : Type} {f : α → AV} {xs : List α} {el : TypeId} : lenD (some (.slice el)) (.sl (xs.map f)) = some (.v (.int .i64 xs.length)) := by simp [lenD]
@[go_sem] theorem lenD_mr {el : TypeId} {j off len n : Nat} {g : Bool} : lenD (some (.slice el)) (.mr j off len n g) = some (.v (.int .i64 len)) := rfl
@[go_sem] theorem lenD_nil {el : TypeId} : lenD (some (.slice el)) (.sl []) = some (.v (.int .i64 0)) := by simp [lenD]
@[go_sem] theorem builtin_min {ts : List TypeId} {a b : AV} : builtinA P .min ts [a, b] = minA a b := rfl
@[go_sem] theorem builtin_max {ts : List TypeId} {a b : AV} : builtinA P .max ts [a, b] = maxA a b := rfl
end
end Go.Lv
set_option linter.unusedVariables false
set_option linter.unusedSimpArgs false
/-! append, building, slicing, for rewriting. -/
namespace Go.Lv
section
variable {P : Program} {e : Env} {H : Heap} {k k' : IntKind} {x y : Int}

/-! ### append -/
def appendD (P : Program) (u v : Option TypeDesc) (a b : AV) : Option AV :=
  match u, v, a, b with
  | some (.slice e), some (.slice _), .sl xs, .sl ys =>
    match sizeT P e, bytesT P e, zeroA P e with
    | some n, some by_, some z => if 0 < n ∧ z.length = n ∧ (xs.length + ys.length) * (by_ + 1) ≤ 140737488355328 ∧ (∀ a ∈ xs, a.cells.length = n) ∧ (∀ a ∈ ys, a.cells.length = n) then some (.sl (xs ++ ys)) else none
    | _, _, _ => none
  | some (.slice e), some .string, .sl xs, .v (.string s) =>
    match sizeT P e, bytesT P e, zeroA P e with
    | some 1, some 1, some [_] => if (xs.length + s.size) * 2 ≤ 140737488355328 ∧ (∀ a ∈ xs, a.cells.length = 1) then some (.sl (xs ++ s.data.toList.map byteA)) else none
    | _, _, _ => none
  | _, _, _, _ => none
@[go_sem] theorem builtin_append_sl {t u : TypeId} {xs ys : List AV} : builtinA P .append [t, u] [.sl xs, .sl ys] = appendD P (P.underlying t) (P.underlying u) (.sl xs) (.sl ys) := by
  show (match P.underlying t, P.underlying u with
    | some (.slice e), some (.slice _) =>
      match sizeT P e, bytesT P e, zeroA P e with
      | some n, some by_, some z => if 0 < n ∧ z.length = n ∧ (xs.length + ys.length) * (by_ + 1) ≤ 140737488355328 ∧ (∀ a ∈ xs, a.cells.length = n) ∧ (∀ a ∈ ys, a.cells.length = n) then some (AV.sl (xs ++ ys)) else none
      | _, _, _ => none
    | _, _ => none) = _
  generalize P.underlying t = a; generalize P.underlying u = b
  cases a with
  | none => rfl
  | some a =>
    cases a with
    | slice el => cases b with
      | none => rfl
      | some b => cases b <;> rfl
    | _ => rfl
/-- Room for so many elements: size, bytes, what stands there at first. -/
def roomD (n : Nat) (s b : Option Nat) (z : Option (List AV)) (len : Int) (r : AV) : Option AV :=
  match s, b, z with
  | some m, some by_, some z => if m = n ∧ 0 < n ∧ z.length = n ∧ len * (by_ + 1) ≤ 140737488355328 then some r else none
  | _, _, _ => none
@[go_sem] theorem roomD_ok {n by_ : Nat} {z : List AV} {len : Int} {r : AV} (h0 : (0 : Int) < n) (h1 : (z.length : Int) = n) (h : len * (by_ + 1) ≤ 140737488355328) : roomD n (some n) (some by_) (some z) len r = some r := by
  have h2 : z.length = n := by omega
  have h3 : 0 < n := by omega
  unfold roomD
  simp only
  simp only [true_and]
  rw [if_pos ⟨h3, h2, h⟩]
theorem appendD_n {n : Nat} {xs ys : List AV} {el el' : TypeId} (hx : ∀ a ∈ xs, a.cells.length = n) (hy : ∀ a ∈ ys, a.cells.length = n) (h : sizeT P el = some n) :
    appendD P (some (.slice el)) (some (.slice el')) (.sl xs) (.sl ys) = roomD n (sizeT P el) (bytesT P el) (zeroA P el) (xs.length + ys.length) (.sl (xs ++ ys)) := by
  unfold appendD roomD
  simp only [h]
  cases bytesT P el with
  | none => rfl
  | some by_ =>
    cases zeroA P el with
    | none => rfl
    | some z =>
      have hc : ((xs.length : Int) + ys.length) * (by_ + 1) ≤ 140737488355328 ↔ (xs.length + ys.length) * (by_ + 1) ≤ 140737488355328 := by
        rw [show ((xs.length : Int) + ys.length) * (by_ + 1) = (((xs.length + ys.length) * (by_ + 1) : Nat) : Int) by push_cast; rfl]
        omega
      simp only [true_and, hc, show (∀ a ∈ xs, a.cells.length = n) ↔ True from iff_true_intro hx, show (∀ a ∈ ys, a.cells.length = n) ↔ True from iff_true_intro hy, and_true]
theorem map_cells {α : Type} {f : α → AV} {n : Nat} [hf : CellsN f n] (xs : List α) : ∀ a ∈ xs.map f, a.cells.length = n := by
  intro a ha
  obtain ⟨x, _, rfl⟩ := List.mem_map.1 ha
  exact hf.h x

/-! ### Types, known by instances -/
class UndIs (P : Program) (t : TypeId) (d : outParam TypeDesc) : Prop where
  h : P.underlying t = some d
class SizeIs (P : Program) (t : TypeId) (n : outParam Nat) : Prop where
  h : sizeT P t = some n
class BytesIs (P : Program) (t : TypeId) (n : outParam Nat) : Prop where
  h : bytesT P t = some n
class ZeroIs (P : Program) (t : TypeId) (z : outParam (List AV)) : Prop where
  h : zeroA P t = some z
class AggIs (P : Program) (t : TypeId) (b : outParam Bool) : Prop where
  h : isAggT P t = some b
@[go_sem] theorem und_is {t : TypeId} {d : TypeDesc} [h : UndIs P t d] : P.underlying t = some d := h.h
@[go_sem] theorem size_is {t : TypeId} {n : Nat} [h : SizeIs P t n] : sizeT P t = some n := h.h
@[go_sem] theorem bytes_is {t : TypeId} {n : Nat} [h : BytesIs P t n] : bytesT P t = some n := h.h
@[go_sem] theorem zero_is {t : TypeId} {z : List AV} [h : ZeroIs P t z] : zeroA P t = some z := h.h
@[go_sem] theorem agg_is {t : TypeId} {b : Bool} [h : AggIs P t b] : isAggT P t = some b := h.h

/-- Elements that may stand in memory. -/
class OneOK {α : Type} (f : α → AV) : Prop where
  h : ∀ x, (f x).cells.all AV.one = true
instance : OneOK (fun n : Int => AV.v (.int .i64 n)) := ⟨fun _ => rfl⟩
instance : OneOK (fun n : Bool => AV.v (.bool n)) := ⟨fun _ => rfl⟩
instance : OneOK AV.str := ⟨fun _ => rfl⟩
instance : OneOK byteA := ⟨fun _ => rfl⟩
instance : OneOK AV.bytes := ⟨fun _ => rfl⟩

/-- Rows of one kind laid behind each other. -/
@[go_sem] theorem append_map {α : Type} {f : α → AV} {n : Nat} [hf : CellsN f n] {xs ys : List α} {el el' : TypeId} [h : SizeIs P el n] :
    appendD P (some (.slice el)) (some (.slice el')) (.sl (xs.map f)) (.sl (ys.map f)) = roomD n (sizeT P el) (bytesT P el) (zeroA P el) (xs.length + ys.length) (.sl ((xs ++ ys).map f)) := by
  rw [appendD_n (map_cells xs) (map_cells ys) h.h]
  simp
@[go_sem] theorem append_one {α : Type} {f : α → AV} {n : Nat} [hf : CellsN f n] {xs : List α} {y : α} {el el' : TypeId} [h : SizeIs P el n] :
    appendD P (some (.slice el)) (some (.slice el')) (.sl (xs.map f)) (.sl [f y]) = roomD n (sizeT P el) (bytesT P el) (zeroA P el) (xs.length + 1) (.sl ((xs ++ [y]).map f)) := by
  have := append_map (P := P) (f := f) (xs := xs) (ys := [y]) (el := el) (el' := el')
  simpa using this
/-- Behind nothing. -/
@[go_sem] theorem append_nil {α : Type} {f : α → AV} {n : Nat} [hf : CellsN f n] {ys : List α} {el el' : TypeId} [h : SizeIs P el n] :
    appendD P (some (.slice el)) (some (.slice el')) (.sl []) (.sl (ys.map f)) = roomD n (sizeT P el) (bytesT P el) (zeroA P el) ys.length (.sl (ys.map f)) := by
  have := append_map (P := P) (f := f) (xs := []) (ys := ys) (el := el) (el' := el')
  simpa using this
/-! ### Literals of slices -/
def goodParts (n i len : Nat) : List (Nat × AV) → Bool
  | [] => i == len
  | (j, a) :: r => j == i && (a.cells.length == n && (a.cells.all AV.one && goodParts n (i + 1) len r))
def okD (c : Bool) (r : AV) : Option AV := bif c then some r else none
@[go_sem] theorem okD_true {r : AV} : okD true r = some r := rfl
theorem goodParts_ok {n len : Nat} : ∀ (l : List (Nat × AV)) (i : Nat), goodParts n i len l = true ↔ i + l.length = len ∧ l.map (·.1) = List.range' i l.length ∧ ∀ p ∈ l, p.2.cells.length = n ∧ p.2.cells.all AV.one = true := by
  intro l
  induction l with
  | nil => intro i; simp [goodParts]
  | cons p l ih =>
    intro i
    obtain ⟨j, a⟩ := p
    simp only [goodParts, Bool.and_eq_true, beq_iff_eq, ih, List.length_cons, List.map_cons, List.range'_succ, List.cons.injEq, List.forall_mem_cons]
    constructor
    · rintro ⟨h1, h2, h3, h4, h5, h6⟩; exact ⟨by omega, ⟨h1, h5⟩, ⟨h2, h3⟩, h6⟩
    · rintro ⟨h4, ⟨h1, h5⟩, ⟨h2, h3⟩, h6⟩; exact ⟨h1, h2, h3, by omega, h5, h6⟩
@[go_sem] theorem buildSlice_is {t el : TypeId} {n len : Nat} {z : List AV} [hu : UndIs P t (.slice el)] [hs : SizeIs P el n] [hz : ZeroIs P el z] {parts : List (Nat × AV)} (h0 : (0 : Int) < n) (hl : (len : Int) * n ≤ 65536) (hzl : (z.length : Int) = n) :
    buildSliceA P t len parts = okD (goodParts n 0 len parts) (.sl (parts.map (·.2))) := by
  have e1 : (elemOfT P t) = some el := by unfold elemOfT; rw [hu.h]
  unfold buildSliceA
  rw [e1]
  simp only [Option.bind_some, hs.h, hz.h, Option.map_some]
  have h1 : z.length = n := by omega
  have h2 : 0 < n := by omega
  have h3 : len * n ≤ 65536 := by
    have : ((len * n : Nat) : Int) ≤ 65536 := by push_cast; exact hl
    omega
  simp only [h1, h2, h3, true_and, and_true]
  unfold okD
  have h4 := goodParts_ok (n := n) (len := len) parts 0
  by_cases hg : goodParts n 0 len parts = true
  · rw [hg]
    obtain ⟨h5, h6, h7⟩ := h4.1 hg
    rw [if_pos]; rfl
    refine ⟨?_, h7⟩
    rw [h6, List.range_eq_range']; congr 1; omega
  · rw [if_neg]
    · simp [hg]
    · rintro ⟨h5, h7⟩
      refine hg (h4.2 ⟨?_, ?_, h7⟩)
      · have := congrArg List.length h5
        simp at this; omega
      · have := congrArg List.length h5
        simp at this
        rw [h5, this, List.range_eq_range']
def cellsOK (n : Nat) (a : AV) : Bool := a.cells.length == n && a.cells.all AV.one
@[go_sem] theorem goodParts_nil {n i len : Nat} : goodParts n i len [] = (i == len) := rfl
@[go_sem] theorem goodParts_cons {n i len j : Nat} {a : AV} {r : List (Nat × AV)} : goodParts n i len ((j, a) :: r) = (j == i && (cellsOK n a && goodParts n (i + 1) len r)) := by
  simp [goodParts, cellsOK, Bool.and_assoc]
@[go_sem] theorem cellsOK_v {x : Value} : cellsOK 1 (.v x) = true := rfl
@[go_sem] theorem cellsOK_str {l : List UInt8} : cellsOK 1 (AV.str l) = true := rfl
@[go_sem] theorem cellsOK_byte {b : UInt8} : cellsOK 1 (byteA b) = true := rfl
@[go_sem] theorem cellsOK_sl {xs : List AV} : cellsOK 1 (.sl xs) = true := rfl
@[go_sem] theorem cellsOK_fn {f : FuncId} {xs : List AV} : cellsOK 1 (.fn f xs) = true := rfl
@[go_sem] theorem cellsOK_ptr {j off : Nat} : cellsOK 1 (.ptr j off) = true := rfl
theorem cellsOK_of {α : Type} {f : α → AV} {n : Nat} [hf : CellsN f n] [ho : OneOK f] (x : α) : cellsOK n (f x) = true := by
  simp [cellsOK, hf.h x, ho.h x]
attribute [go_sem] Nat.sub_zero Nat.zero_add Nat.add_zero Nat.mul_one or_true Int.toNat_natCast Bool.not_true Bool.not_false List.take_length List.drop_zero Bool.or_false Bool.false_or Bool.or_true Bool.true_or beq_self_eq_true Bool.true_and Bool.and_true Bool.false_and Bool.and_false Nat.reduceAdd
/-! ### Slices -/
@[go_sem] theorem bound_none {n d : Nat} : bound n none d = some d := rfl
@[go_sem] theorem bound_some {n d : Nat} {i : Int} (h0 : 0 ≤ i) (h1 : i ≤ n) : bound n (some (.v (.int k i))) d = some i.toNat := by simp [bound, h0, h1]
@[go_sem] theorem slice_map {α : Type} {f : α → AV} {n : Nat} [hf : CellsN f n] {t el : TypeId} [hu : UndIs P t (.slice el)] [hs : SizeIs P el n] {xs : List α} {lo hi : Option AV} (hn : (0 : Int) < n) :
    sliceA P t (.sl (xs.map f)) lo hi none = (bound xs.length hi xs.length).bind fun h => (bound h lo 0).bind fun b => some (.sl (((xs.take h).drop b).map f)) := by
  unfold sliceA
  rw [hu.h]
  simp only [hs.h, Option.bind_some]
  rw [if_pos ⟨by omega, map_cells xs⟩]
  simp
attribute [go_sem] Option.bind_some
/-! ### Bytes as numbers -/
@[go_sem] theorem bin_byte1 {op : BinOp} {t : TypeId} {b : UInt8} {a : AV} : bin P op t (byteA b) a = bin P op t (.v (.int .u8 b.toNat)) a := rfl
@[go_sem] theorem bin_byte2 {op : BinOp} {t : TypeId} {b : UInt8} {v : Value} : bin P op t (.v v) (byteA b) = bin P op t (.v v) (.v (.int .u8 b.toNat)) := rfl
@[go_sem] theorem convD_byte {u v : Option TypeDesc} {b : UInt8} : convD P u v (byteA b) = convD P u v (.v (.int .u8 b.toNat)) := rfl
@[go_sem] theorem minA_byte {a b : UInt8} : minA (byteA a) (byteA b) = minA (.v (.int .u8 a.toNat)) (.v (.int .u8 b.toNat)) := rfl
/-! ### Rows that may be written -/
@[go_sem] theorem viewR_sl {t : TypeId} {xs : List AV} : viewR P H t (.sl xs) = .sl xs := rfl
@[go_sem] theorem viewR_ow {t : TypeId} {xs : List AV} {j : Nat} : viewR P H t (.ow xs j) = .sl xs := rfl
@[go_sem] theorem viewR_bytes {t : TypeId} {l : List UInt8} : viewR P H t (AV.bytes l) = .sl (l.map byteA) := rfl
@[go_sem] theorem viewR_nilA {t : TypeId} : viewR P H t nilA = .sl [] := rfl
@[go_sem] theorem viewR_str {t : TypeId} {l : List UInt8} : viewR P H t (AV.str l) = AV.str l := rfl
/-! ### The first environment -/
@[go_sem] theorem env0_zero {a : AV} {l : List AV} : env0 (a :: l) 0 = a := rfl
@[go_sem] theorem env0_succ {a : AV} {l : List AV} {n : Nat} : env0 (a :: l) (n + 1) = env0 l n := rfl
end
attribute [go_sem] and_self and_true true_and reduceIte Nat.reduceEqDiff Nat.reduceMul Nat.reduceSub Nat.reduceBEq Int.reduceNeg Int.reduceAdd Int.reduceSub Int.reduceMul Int.reduceToNat Int.reduceLT Int.reduceLE Int.reduceEq Int.reduceNe Int.reducePow Nat.reducePow Nat.reduceLT reduceCtorEq
end Go.Lv
