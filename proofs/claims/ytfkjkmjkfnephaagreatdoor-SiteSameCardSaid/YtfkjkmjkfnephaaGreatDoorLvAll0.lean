/- A value semantics of the loaded code, its soundness, and walks through functions over it. -/
import Derived.Orders
import Derived.Laws.AppendOwn
import Derived.RowKit
import Derived.KernelRfl
import GoSem.ClaimData
set_option linter.unusedVariables false
set_option linter.unusedSimpArgs false
theorem xoB.{u, v} {α : Type u} {β : Type v} {b : β} {o : Option α} {f : α → Option β} : o.bind f = some b ↔ ∃ a, o = some a ∧ f a = some b := Option.bind_eq_some_iff
theorem xoM.{u, v} {α : Type u} {β : Type v} {b : β} {x : Option α} {f : α → β} : x.map f = some b ↔ ∃ a, x = some a ∧ f a = b := Option.map_eq_some_iff
theorem xgL.{u} {α : Type u} {l m : List α} {i : Nat} (h : i < l.length) : (l ++ m)[i]? = l[i]? := List.getElem?_append_left h
theorem xgR.{u} {α : Type u} {l m : List α} {i : Nat} (h : l.length ≤ i) : (l ++ m)[i]? = m[i - l.length]? := List.getElem?_append_right h
theorem xgI.{u} {α : Type u} {l : List α} {i : Nat} {a : α} : l[i]? = some a ↔ ∃ h : i < l.length, l[i] = a := List.getElem?_eq_some_iff
theorem xgE.{u} {α : Type u} {l : List α} {i : Nat} (h : i < l.length) : l[i]? = some l[i] := List.getElem?_eq_getElem h
theorem xgD.{u} {α : Type u} {l : List α} {i : Nat} {a : α} : l.getD i a = l[i]?.getD a := List.getD_eq_getElem?_getD
namespace Go.Lv
inductive AV where
 | un
 | v (x : Value)
 | sl (xs : List AV)
 | agg (xs : List AV)
 | tup (xs : List AV)
 | fn (f : FuncId) (caps : List AV)
 | ptr (j off : Nat)
 | ea (e : AV) (off : Nat)
 | mr (j off len n : Nat) (g : Bool)
 | ow (xs : List AV) (j : Nat)
 | mp (j : Nat)
 | tk (lo : Nat)
 | mv (ks vs : List AV)
 deriving Inhabited
abbrev AV.i (n : Int) : AV := .v (.int .i64 n)
abbrev AV.b (t : Bool) : AV := .v (.bool t)
abbrev AV.s (s : ByteArray) : AV := .v (.string s)
def AV.cells : AV → List AV
 | .agg xs => xs
 | a => [a]
def AV.one : AV → Bool
 | .un | .agg _ | .tup _ | .tk _ | .mv _ _ => false
 | _ => true
def plainRow : List AV → Bool
 | [.tk _] => false
 | [.mv _ _] => false
 | _ => true
def isMv : List AV → Bool
 | [.mv _ _] => true
 | _ => false
def tkLo : List AV → Nat
 | [.tk lo] => lo
 | _ => 0
def tkRow : List AV → Option Nat
 | [.tk lo] => some lo
 | _ => none
theorem tkRow_spec {cs : List AV} {lo : Nat} (h : tkRow cs = some lo) : cs = [.tk lo] := by
 unfold tkRow at h
 split at h
 ·injection h with h; subst h; rfl
 ·cases h
theorem plainRow_spec {cs : List AV} (h : plainRow cs = true) : isMv cs = false ∧ tkLo cs = 0 := by
 unfold plainRow at h
 split at h
 ·cases h
 ·cases h
 ·rename_i h1 h2
  constructor
  ·unfold isMv
   split
   ·exact absurd rfl (h2 _ _)
   ·rfl
  ·unfold tkLo
   split
   ·exact absurd rfl (h1 _)
   ·rfl
theorem plainRow_one {cs : List AV} (h : cs.all AV.one = true) : plainRow cs = true := by
 unfold plainRow
 split
 ·simp [AV.one] at h
 ·simp [AV.one] at h
 ·rfl
theorem isMv_append {a b : List AV} (hb : b ≠ []) (h1 : b.all AV.one = true) : isMv (a ++ b) = false := by
 unfold isMv
 split
 ·rename_i ks vs h
  exfalso
  have hl := congrArg List.length h
  rw [List.length_append] at hl
  have : 0 < b.length := List.length_pos_iff.2 hb
  have ha : a = [] := List.eq_nil_of_length_eq_zero (by simp at hl; omega)
  rw [ha, List.nil_append] at h
  rw [h] at h1
  simp [AV.one] at h1
 ·rfl
def owA : AV → AV
 | .ow xs _ => .sl xs
 | a => a
abbrev Env := Nat → AV
abbrev Heap := List (List AV)
def upd (e : Env) (d : Nat) (a : AV) : Env := fun t => if t = d then a else e t
def put (e : Env) : Option Nat → AV → Env
 | some d, a => upd e d a
 | none, _ => e
def lit1 : Value → AV
 | .slice none 0 0 => .sl []
 | .slice _ _ _ => .un
 | .tuple _ => .un
 | .agg _ => .un
 | x => .v x
def lit : Value → AV
 | .agg cs => .agg (cs.toList.map lit1)
 | x => lit1 x
def ev (e : Env) : Operand → AV
 | .tmp t => e t
 | .const v => lit v
 | .global _ => .un
 | .func f => .fn f []
def litX1 : Value → AV
 | .slice none 0 0 => .v (.slice none 0 0)
 | x => lit1 x
def litX : Value → AV
 | .agg cs => .agg (cs.toList.map litX1)
 | x => litX1 x
def evX (e : Env) : Operand → AV
 | .const v => litX v
 | x => ev e x
def sizeT (P : Program) (t : TypeId) : Option Nat := (P.info? t).map (·.size)
def bytesT (P : Program) (t : TypeId) : Option Nat := (P.info? t).map (·.bytes)
def isAggT (P : Program) (t : TypeId) : Option Bool := (P.underlying t).map fun | .struct _ | .array _ _ => true | _ => false
def partA (P : Program) (t : TypeId) (cs : List AV) (off : Nat) : Option AV :=
 match isAggT P t, sizeT P t with
 | some true, some n => if off + n ≤ cs.length then some (.agg ((cs.drop off).take n)) else none
 | some false, _ => cs[off]?
 | _, _ => none
def isNilV : Value → Bool
 | .slice none n c => n == 0 && c == 0
 | _ => false
def plainA : AV → AV
 | .ow xs _ => .sl xs
 | .v x => if isNilV x = true then .sl [] else .v x
 | a => a
theorem isNilV_spec {x : Value} (h : isNilV x = true) : x = .slice none 0 0 := by
 unfold isNilV at h
 split at h
 ·simp only [Bool.and_eq_true, beq_iff_eq] at h; rw [h.1, h.2]
 ·cases h
def binS (op : BinOp) (x y : ByteArray) : Option Value :=
 match op with
 | .add => if x.size + y.size ≤ 140737488355328 then some (.string (x ++ y)) else none
 | .eql => some (.bool (x.toList == y.toList))
 | .neq => some (.bool (!(x.toList == y.toList)))
 | .lss => some (.bool (Op.bytesLess x.toList y.toList))
 | .leq => some (.bool (Op.bytesLess x.toList y.toList || x.toList == y.toList))
 | .gtr => some (.bool (!(Op.bytesLess x.toList y.toList || x.toList == y.toList)))
 | .geq => some (.bool (!(Op.bytesLess x.toList y.toList)))
 | _ => none
def binI (op : BinOp) (k : IntKind) (x y : Int) : Option Value :=
 match op with
 | .add => some (.int k (k.wrap (x + y)))
 | .sub => some (.int k (k.wrap (x - y)))
 | .mul => some (.int k (k.wrap (x * y)))
 | .quo => if y = 0 then none else some (.int k (k.wrap (x.tdiv y)))
 | .rem => if y = 0 then none else some (.int k (x.tmod y))
 | .and => some (.int k (k.wrap (BitVec.ofInt k.bits x &&& BitVec.ofInt k.bits y).toNat))
 | .or => some (.int k (k.wrap (BitVec.ofInt k.bits x ||| BitVec.ofInt k.bits y).toNat))
 | .xor => some (.int k (k.wrap (BitVec.ofInt k.bits x ^^^ BitVec.ofInt k.bits y).toNat))
 | .andNot => some (.int k (k.wrap (BitVec.ofInt k.bits x &&& ~~~ BitVec.ofInt k.bits y).toNat))
 | .eql => some (.bool (x == y))
 | .neq => some (.bool (x != y))
 | .lss => some (.bool (decide (x < y)))
 | .leq => some (.bool (decide (x ≤ y)))
 | .gtr => some (.bool (decide (x > y)))
 | .geq => some (.bool (decide (x ≥ y)))
 | _ => none
def eqArr (k : IntKind) : List AV → List AV → Option Bool
 | [], [] => some true
 | .v (.int a x) :: xs, .v (.int b y) :: ys => if a = k ∧ b = k then (eqArr k xs ys).map fun r => x == y && r else none
 | _, _ => none
def eqA1 (P : Program) (t : TypeId) (a b : AV) : Option Bool :=
 match P.underlying t, a, b with
 | some (.int k), .v (.int i x), .v (.int j y) => if i = k ∧ j = k then some (x == y) else none
 | some .string, .v (.string x), .v (.string y) => some (x == y)
 | some .bool, .v (.bool x), .v (.bool y) => some (x == y)
 | some (.array len e), .agg xs, .agg ys => match P.underlying e with
  | some (.int k) => if sizeT P e = some 1 ∧ xs.length = len ∧ ys.length = len then eqArr k xs ys else none
  | _ => none
 | _, _, _ => none
def eqF1 (P : Program) (xs ys : List AV) : List Field → Option Bool
 | [] => some true
 | f :: r => if f.name = "_" then none else (partA P f.type xs f.offset).bind fun a => (partA P f.type ys f.offset).bind fun b => (eqA1 P f.type a b).bind fun t => (eqF1 P xs ys r).map fun u => t && u
def eqA2 (P : Program) (t : TypeId) (a b : AV) : Option Bool :=
 match P.underlying t, a, b with
 | some (.struct fs), .agg xs, .agg ys => if P.stoodInHeld t = false then eqF1 P xs ys fs.toList else none
 | _, a, b => eqA1 P t a b
def eqFs (P : Program) (xs ys : List AV) : List Field → Option Bool
 | [] => some true
 | f :: r => if f.name = "_" then none else (partA P f.type xs f.offset).bind fun a => (partA P f.type ys f.offset).bind fun b => (eqA2 P f.type a b).bind fun t => (eqFs P xs ys r).map fun u => t && u
def cmpB (op : BinOp) (r : Bool) : Option AV :=
 match op with
 | .eql => some (.b r)
 | .neq => some (.b (!r))
 | _ => none
def binAgg (P : Program) (op : BinOp) (xt : TypeId) (xs ys : List AV) : Option AV :=
 if P.eqGuardType P.depth xt = false then
  match P.underlying xt with
  | some (.array _ _) => (eqA2 P xt (.agg xs) (.agg ys)).bind (cmpB op)
  | some (.struct fs) => if P.stoodInHeld xt = false then (eqFs P xs ys fs.toList).bind (cmpB op) else none
  | _ => none
 else none
def bin (P : Program) (op : BinOp) (xt : TypeId) (a b : AV) : Option AV :=
 match a, b with
 | .v (.int k x), .v (.int k' y) =>
  match op with
  | .shl => if y < 0 then none else some (.v (.int k (k.wrap (x * 2 ^ (min y.toNat k.bits)))))
  | .shr => if y < 0 then none else some (.v (.int k (x.fdiv (2 ^ (min y.toNat k.bits)))))
  | _ => if k = k' then (binI op k x y).map .v else none
 | .v (.string x), .v (.string y) => (binS op x y).map .v
 | .v (.bool x), .v (.bool y) =>
  match P.underlying xt, op with
  | some .bool, .eql => some (.b (x == y))
  | some .bool, .neq => some (.b (!(x == y)))
  | _, _ => none
 | .ptr _ _, .v (.pointer none) =>
  match P.underlying xt, op with
  | some (.pointer _), .eql => some (.b false)
  | some (.pointer _), .neq => some (.b true)
  | _, _ => none
 | .v (.pointer none), .v (.pointer none) =>
  match P.underlying xt, op with
  | some (.pointer _), .eql => some (.b true)
  | some (.pointer _), .neq => some (.b false)
  | _, _ => none
 | .agg xs, .agg ys => binAgg P op xt xs ys
 | _, _ => none
def un1 (op : UnOp) (a : AV) : Option AV :=
 match op, a with
 | .neg, .v (.int k n) => some (.v (.int k (k.wrap (0 - n))))
 | .xor, .v (.int k n) => (binI .xor k (if k.signed then -1 else k.max) n).map .v
 | .not, .v (.bool b) => some (.b (!b))
 | _, _ => none
def byteA (b : UInt8) : AV := .v (.int .u8 b.toNat)
def strA (s : ByteArray) : AV := .sl (s.data.toList.map byteA)
def byteOfA : AV → Option UInt8
 | .v (.int .u8 n) => some (UInt8.ofNat n.toNat)
 | _ => none
def bytesOfA (xs : List AV) : Option ByteArray := (xs.mapM byteOfA).map fun l => ⟨l.toArray⟩
def conv (P : Program) (src dst : TypeId) (a : AV) : Option AV :=
 match P.underlying src, P.underlying dst, a with
 | some _, some (.int k), .v (.int _ n) => some (.v (.int k (k.wrap n)))
 | some _, some .string, .v (.string s) => some (.s s)
 | some (.slice e), some .string, .sl xs =>
  match P.underlying e with
  | some (.int .u8) => (bytesOfA xs).map .s
  | _ => none
 | some .string, some (.slice e), .v (.string s) =>
  match P.underlying e with
  | some (.int .u8) => some (strA s)
  | _ => none
 | _, _, _ => none
def idx (n : Nat) (i : Int) : Option Nat := if 0 ≤ i ∧ i < n then some i.toNat else none
def bound (n : Nat) : Option AV → Nat → Option Nat
 | none, d => some d
 | some (.v (.int _ i)), _ => if 0 ≤ i ∧ i ≤ n then some i.toNat else none
 | _, _ => none
def sliceA (P : Program) (t : TypeId) (a : AV) (lo hi mx : Option AV) : Option AV :=
 match P.underlying t, a, mx with
 | some .string, .v (.string s), none =>
  (bound s.size hi s.size).bind fun h => (bound h lo 0).bind fun l => some (.s (s.extract l h))
 | some (.slice e), .sl xs, none => (sizeT P e).bind fun n => if 0 < n ∧ ∀ a ∈ xs, a.cells.length = n then
  (bound xs.length hi xs.length).bind fun h => (bound h lo 0).bind fun l => some (.sl ((xs.take h).drop l)) else none
 | some (.slice e), .v x, none => if isNilV x = true then (sizeT P e).bind fun _ => (bound 0 hi 0).bind fun h => (bound h lo 0).bind fun _ => some (.v x) else none
 | some (.slice e), .mr j off len n g, none => if sizeT P e = some n then
  (bound len hi len).bind fun h => (bound h lo 0).bind fun l => some (if l < h ∨ l = 0 then .mr j (off + l * n) (h - l) n g else .sl []) else none
 | _, _, _ => none
def fillA (place : Nat → Option (Nat × Nat)) (cells : List AV) : List (Nat × AV) → Option (List AV)
 | [] => some cells
 | (i, a) :: rest =>
  match place i with
  | none => none
  | some (off, size) =>
   if a.cells.length = size ∧ a.cells.all AV.one = true ∧ off + size ≤ cells.length then fillA place (cells.take off ++ a.cells ++ cells.drop (off + size)) rest else none
def zeroA (P : Program) (t : TypeId) : Option (List AV) := ((P.info? t).bind (·.zero)).bind fun z => if (litX z).cells.all AV.one = true then some (litX z).cells else none
def buildA (P : Program) (t : TypeId) (parts : List (Nat × AV)) : Option AV :=
 match P.underlying t, zeroA P t with
 | some (.struct fs), some z => (fs.toList.mapM fun f => sizeT P f.type).bind fun _ => (fillA (fun i => (fs[i]?).bind fun f => (sizeT P f.type).map fun n => (f.offset, n)) z parts).map .agg
 | some (.array _ e), some z => (sizeT P e).bind fun n => (fillA (fun i => some (i * n, n)) z parts).map .agg
 | _, _ => none
def elemOfT (P : Program) (t : TypeId) : Option TypeId := match P.underlying t with | some (.slice e) => some e | _ => none
def chunk (isAgg : Bool) (n : Nat) : Nat → List AV → List AV
 | 0, _ => []
 | k + 1, cs => (if isAgg then .agg (cs.take n) else cs.headD .un) :: chunk isAgg n k (cs.drop n)
def buildSliceA (P : Program) (t : TypeId) (len : Nat) (parts : List (Nat × AV)) : Option AV :=
 (elemOfT P t).bind fun e => (sizeT P e).bind fun n =>
  if 0 < n ∧ len * n ≤ 65536 ∧ parts.map (·.1) = List.range len ∧ (∀ p ∈ parts, p.2.cells.length = n ∧ p.2.cells.all AV.one = true) ∧ (zeroA P e).map List.length = some n then some (.sl (parts.map (·.2))) else none
def loadA (P : Program) (H : Heap) (t : TypeId) : AV → Option AV
 | .ptr j off => (H[j]?).bind fun cs => if plainRow cs = true then partA P t cs off else none
 | .ea e off => partA P t e.cells off
 | _ => none
def storeA (P : Program) (H : Heap) (t : TypeId) (p a : AV) : Option Heap :=
 match p, sizeT P t with
 | .ptr j off, some n => (H[j]?).bind fun cs =>
  if a.cells.length = n ∧ a.cells.all AV.one = true ∧ off + n ≤ cs.length ∧ 0 < n ∧ plainRow cs = true then some (H.set j (cs.take off ++ a.cells ++ cs.drop (off + n))) else none
 | _, _ => none
def fieldAddrA (P : Program) (s : TypeId) (p : AV) (f : Nat) : Option AV :=
 match P.underlying s with
 | some (.struct fs) => (fs[f]?).bind fun fd => (sizeT P fd.type).bind fun n => if n = 0 then none else
  match p with
  | .ptr j off => some (.ptr j (off + fd.offset))
  | .ea e off => some (.ea e (off + fd.offset))
  | _ => none
 | _ => none
def indexAddrA (P : Program) (t : TypeId) (x i : AV) : Option AV :=
 match P.underlying t, x, i with
 | some (.slice e), .sl xs, .v (.int _ i) => (idx xs.length i).bind fun k => (xs[k]?).bind fun a => if sizeT P e = some a.cells.length then some (.ea a 0) else none
 | some (.slice e), .mr j off len n _, .v (.int _ i) => (idx len i).bind fun k => if sizeT P e = some n then some (.ptr j (off + k * n)) else none
 | some (.array len e), .ptr j off, .v (.int _ i) => (idx len i).bind fun k => (sizeT P e).map fun n => .ptr j (off + k * n)
 | some (.array len e), .ea a off, .v (.int _ i) => (idx len i).bind fun k => (sizeT P e).map fun n => .ea a (off + k * n)
 | _, _, _ => none
def indexA (P : Program) (t : TypeId) (x i : AV) : Option AV :=
 match P.underlying t, x, i with
 | some .string, .v (.string s), .v (.int _ i) => (idx s.size i).bind fun k => (s.data[k]?).map byteA
 | some (.array len e), .agg cs, .v (.int _ i) => (idx len i).bind fun k => (sizeT P e).bind fun n => partA P e cs (k * n)
 | _, _, _ => none
def fieldA (P : Program) (t : TypeId) (x : AV) (f : Nat) : Option AV :=
 match P.underlying t, x with
 | some (.struct fs), .agg cs => (fs[f]?).bind fun fd => partA P fd.type cs fd.offset
 | _, _ => none
def minA : AV → AV → Option AV
 | .v (.int k x), .v (.int _ y) => some (.v (.int k (if y < x then y else x)))
 | _, _ => none
def maxA : AV → AV → Option AV
 | .v (.int k x), .v (.int _ y) => some (.v (.int k (if y > x then y else x)))
 | _, _ => none
def builtinA (P : Program) (b : Builtin) (ts : List TypeId) (as_ : List AV) : Option AV :=
 match b, ts, as_ with
 | .len, [t], [.v x] => match P.underlying t, x with | some .string, .string s => some (.i s.size) | some (.slice _), x => if isNilV x = true then some (.i 0) else none | _, _ => none
 | .len, [t], [.sl xs] => match P.underlying t with | some (.slice _) => some (.i xs.length) | _ => none
 | .len, [t], [.mr _ _ len _ _] => match P.underlying t with | some (.slice _) => some (.i len) | _ => none
 | .min, _, [a, b] => minA a b
 | .max, _, [a, b] => maxA a b
 | .append, [t, u], [.sl xs, .sl ys] =>
  match P.underlying t, P.underlying u with
  | some (.slice e), some (.slice _) =>
   match sizeT P e, bytesT P e, zeroA P e with
   | some n, some by_, some z => if 0 < n ∧ z.length = n ∧ (xs.length + ys.length) * (by_ + 1) ≤ 140737488355328 ∧ (∀ a ∈ xs, a.cells.length = n) ∧ (∀ a ∈ ys, a.cells.length = n) then some (.sl (xs ++ ys)) else none
   | _, _, _ => none
  | _, _ => none
 | .append, [t, u], [.sl xs, .v (.string s)] =>
  match P.underlying t, P.underlying u with
  | some (.slice e), some .string =>
   match sizeT P e, bytesT P e, zeroA P e with
   | some 1, some 1, some [_] => if (xs.length + s.size) * 2 ≤ 140737488355328 ∧ (∀ a ∈ xs, a.cells.length = 1) then some (.sl (xs ++ s.data.toList.map byteA)) else none
   | _, _, _ => none
  | _, _ => none
 | _, _, _ => none
def keyEq : AV → AV → Option Bool
 | .v (.string a), .v (.string b) => some (a == b)
 | .v (.int k a), .v (.int k' b) => if k = k' then some (a == b) else none
 | _, _ => none
def findK (k : AV) : List AV → Nat → Option (Option Nat)
 | [], _ => some none
 | k' :: ks, i => match keyEq k k' with
  | some true => if ks.all (fun k'' => (keyEq k k'').isSome) = true then some (some i) else none
  | some false => findK k ks (i + 1)
  | none => none
def keyKind (P : Program) (t : TypeId) (k : AV) : Bool :=
 match P.underlying t, k with
 | some .string, .v (.string _) => true
 | some (.int ik), .v (.int k' _) => k' == ik
 | _, _ => false
def mapTy (P : Program) (t : TypeId) : Option (TypeId × TypeId) := match P.underlying t with | some (.map k e) => some (k, e) | _ => none
def mapOf (H : Heap) (j : Nat) : Option (List AV × List AV) :=
 match H[j]? with
 | some [.mv ks vs] => some (ks, vs)
 | _ => none
def zeroV (P : Program) (t : TypeId) : Option AV := ((P.info? t).bind (·.zero)).map lit
def lookupG (P : Program) (H : Heap) (kt et : TypeId) (m k : AV) (c : Bool) : Option AV :=
 match k, P.underlying kt, m with
 | .agg xs, some (.struct fs), .mp j => if P.stoodInHeld kt = false then
   (match mapOf H j with
   | some ([.agg ys], [v]) => (eqFs P xs ys fs.toList).bind fun b => match b with
    | true => some (if c = true then .tup [v, .b true] else v)
    | false => (zeroV P et).map fun z => if c = true then .tup [z, .b false] else z
   | _ => none)
  else none
 | _, _, _ => none
def updateG (P : Program) (H : Heap) (kt : TypeId) (m k v : AV) : Option Heap :=
 match k, P.underlying kt, m with
 | .agg xs, some (.struct fs), .mp j => if P.stoodInHeld kt = false ∧ eqFs P xs xs fs.toList = some true ∧ v.cells.all AV.one = true then
   (match mapOf H j with
   | some ([], []) => some (H.set j [.mv [k] [v]])
   | _ => none)
  else none
 | _, _, _ => none
def lookupA (P : Program) (H : Heap) (t : TypeId) (m k : AV) (c : Bool) : Option AV :=
 (mapTy P t).bind fun (kt, et) => if keyKind P kt k = true then
  match m with
  | .v (.map none) => (zeroV P et).map fun z => if c = true then .tup [z, .b false] else z
  | .mp j => (mapOf H j).bind fun (ks, vs) => (findK k ks 0).bind fun
   | some i => (vs[i]?).map fun v => if c = true then .tup [v, .b true] else v
   | none => (zeroV P et).map fun z => if c = true then .tup [z, .b false] else z
  | _ => none
 else lookupG P H kt et m k c
def updateA (P : Program) (H : Heap) (t : TypeId) (m k v : AV) : Option Heap :=
 (mapTy P t).bind fun (kt, _) => if keyKind P kt k = true ∧ v.cells.all AV.one = true then
  match m with
  | .mp j => (mapOf H j).bind fun (ks, vs) => (findK k ks 0).map fun
   | some i => H.set j [.mv ks (vs.set i v)]
   | none => H.set j [.mv (ks ++ [k]) (vs ++ [v])]
  | _ => none
 else updateG P H kt m k v
def deleteA (P : Program) (H : Heap) (t : TypeId) (m k : AV) : Option Heap :=
 (mapTy P t).bind fun (kt, _) => if keyKind P kt k = true then
  match m with
  | .v (.map none) => some H
  | .mp j => (mapOf H j).bind fun (ks, vs) => (findK k ks 0).map fun
   | some i => H.set j [.mv (ks.eraseIdx i) (vs.eraseIdx i)]
   | none => H
  | _ => none
 else none
def viewR (P : Program) (H : Heap) (t : TypeId) : AV → AV
 | .mr j off len n g => match elemOfT P t, H[j]? with
  | some e, some cs => if isAggT P e = some g ∧ sizeT P e = some n ∧ (g = true ∨ n = 1) ∧ 0 < len ∧ off + len * n ≤ cs.length ∧ cs.all AV.one = true then .sl (chunk g n len (cs.drop off)) else .un
  | _, _ => .un
 | .v x => if isNilV x = true then .sl [] else .v x
 | .ow xs _ => .sl xs
 | a => a
def opA (P : Program) (e : Env) (H : Heap) (o : Op) : Option (AV × Heap) :=
 let r (x : Option AV) : Option (AV × Heap) := x.map fun a => (a, H)
 match o with
 | .move x | .assign x => some (ev e x, H)
 | .pick c a b => match ev e c with
  | .v (.bool t) => some (bif t then ev e a else ev e b, H)
  | _ => none
 | .alloc t => (zeroA P t).map fun z => (.ptr H.length 0, H ++ [z])
 | .box t x => if (evX e x).cells.all AV.one = true then some (.ptr H.length 0, H ++ [(evX e x).cells]) else none
 | .build t parts => r (buildA P t (parts.toList.map fun p => (p.1, evX e p.2)))
 | .buildSlice t len parts => r (buildSliceA P t len (parts.toList.map fun p => (p.1, ev e p.2)))
 | .load t a => r (loadA P H t (ev e a))
 | .store t a x => (storeA P H t (ev e a) (evX e x)).map fun H' => (.un, H')
 | .nilCheck x => match ev e x with
  | .ptr j off => some (.ptr j off, H)
  | _ => none
 | .binOp op xt x y _ => r (bin P op xt (ev e x) (ev e y))
 | .unOp op _ x => r (un1 op (ev e x))
 | .convert s d x => r (conv P s d (plainA (ev e x)))
 | .makeFunc (.func f) first caps => if first.size = 0 then some (.fn f (caps.toList.map (ev e)), H) else none
 | .slice t x lo hi mx => r (sliceA P t (owA (ev e x)) (lo.map (ev e)) (hi.map (ev e)) (mx.map (ev e)))
 | .fieldAddr s x f => r (fieldAddrA P s (ev e x) f)
 | .field t x f => r (fieldA P t (ev e x) f)
 | .indexAddr t x i => r (indexAddrA P t (owA (ev e x)) (ev e i))
 | .index t x i => r (indexA P t (ev e x) (ev e i))
 | .extract t i => match ev e t with
  | .tup xs => r xs[i]?
  | _ => none
 | .call { callee := .builtin .append, args, argTypes } => match args.toList, argTypes.toList with
  | [x, y], [t, u] => r (builtinA P .append [t, u] [ev e x, viewR P H u (ev e y)])
  | _, _ => none
 | .call { callee := .builtin .delete, args, argTypes } => match args.toList, argTypes.toList with
  | [m, k], [t, _] => (deleteA P H t (ev e m) (ev e k)).map fun H' => (.tup [], H')
  | _, _ => none
 | .call { callee := .builtin b, args, argTypes } => r (builtinA P b argTypes.toList (args.toList.map fun x => owA (ev e x)))
 | .makeMap t none => (mapTy P t).map fun _ => (.mp H.length, H ++ [[.mv [] []]])
 | .lookup t m k c => r (lookupA P H t (ev e m) (ev e k) c)
 | .mapUpdate t m k v => (updateA P H t (ev e m) (ev e k) (ev e v)).map fun H' => (.un, H')
 | .insert t m k v => (updateA P H t (ev e m) (ev e k) (ev e v)).map fun H' => (.un, H')
 | _ => none
def nilA : AV := .v (.slice none 0 0)
def appendM1 (P : Program) (H : Heap) (t u : TypeId) (a b : AV) : Option (AV × Heap) :=
 match P.underlying t, P.underlying u, a, b with
 | some (.slice e), some (.slice _), a, .sl ys =>
  match sizeT P e, bytesT P e, zeroA P e, isAggT P e with
  | some n, some by_, some z, some g =>
   if 0 < n ∧ z.length = n ∧ (∀ a ∈ ys, a.cells.length = n ∧ a.cells.all AV.one = true) ∧ 0 < ys.length then
    match a with
    | .v x => if isNilV x = true ∧ ys.length * (by_ + 1) ≤ 140737488355328 then some (.mr H.length 0 ys.length n g, H ++ [ys.flatMap AV.cells]) else none
    | .ow [] _ => if ys.length * (by_ + 1) ≤ 140737488355328 then some (.mr H.length 0 ys.length n g, H ++ [ys.flatMap AV.cells]) else none
    | .mr j 0 len n' g' => (H[j]?).bind fun cs => if n' = n ∧ g' = g ∧ (len + ys.length) * (by_ + 1) ≤ 140737488355328 ∧ len * n ≤ cs.length ∧ cs ≠ [] ∧ plainRow cs = true ∧ ((cs.take (len * n)).all AV.one = true) then
      some (.mr H.length 0 (len + ys.length) n g, H.set j [] ++ [cs.take (len * n) ++ ys.flatMap AV.cells]) else none
    | _ => none
   else none
  | _, _, _, _ => none
 | _, _, _, _ => none
def appendM0 (P : Program) (H : Heap) (t u : TypeId) (a : AV) : Option (AV × Heap) :=
 match P.underlying t, P.underlying u, a with
 | some (.slice e), some (.slice _), .mr j off len n g => if sizeT P e = some n ∧ 0 < n then some (.mr j off len n g, H) else none
 | some (.slice e), some (.slice _), .ow [] j => (sizeT P e).bind fun n => if 0 < n then some (.ow [] j, H) else none
 | _, _, _ => none
def appendM (P : Program) (H : Heap) (t u : TypeId) (a b : AV) : Option (AV × Heap) :=
 match b with
 | .sl [] => appendM0 P H t u a
 | b => appendM1 P H t u a b
theorem appendM_cons {P : Program} {H : Heap} {t u : TypeId} {a : AV} {ys : List AV} (h : 0 < ys.length) : appendM P H t u a (.sl ys) = appendM1 P H t u a (.sl ys) := by
 cases ys with
 | nil => simp at h
 | cons y ys => rfl
def appendT (P : Program) (H : Heap) (t u : TypeId) (a b : AV) : Option (AV × Heap) :=
 match P.underlying t, P.underlying u, b with
 | some (.slice e), some (.slice _), .sl ys =>
  match sizeT P e, bytesT P e, zeroA P e with
  | some n, some by_, some z =>
   if 0 < n ∧ z.length = n ∧ (∀ a ∈ ys, a.cells.length = n) ∧ 0 < ys.length then
    match a with
    | .v x => if isNilV x = true ∧ ys.length * (by_ + 1) ≤ 140737488355328 then some (.ow ys H.length, H ++ [[.tk (ys.length * n)]]) else none
    | .ow xs j => if (H[j]?).bind tkRow = some (xs.length * n) ∧ (xs.length + ys.length) * (by_ + 1) ≤ 140737488355328 ∧ (∀ a ∈ xs, a.cells.length = n) ∧ 0 < xs.length then
      some (.ow (xs ++ ys) H.length, H.set j [] ++ [[.tk ((xs.length + ys.length) * n)]]) else
      if xs.length = 0 ∧ ys.length * (by_ + 1) ≤ 140737488355328 then some (.ow ys H.length, H ++ [[.tk (ys.length * n)]]) else none
    | _ => none
   else if 0 < n ∧ ys.length = 0 then
    match a with
    | .ow xs j => if xs.length = 0 then some (.ow xs j, H) else none
    | _ => none
   else none
  | _, _, _ => none
 | _, _, _ => none
def makeA (P : Program) (H : Heap) (t : TypeId) (l c : AV) : Option (AV × Heap) :=
 match elemOfT P t, l, c with
 | some e, .v (.int .i64 l), .v (.int .i64 c) =>
  match sizeT P e, bytesT P e, zeroA P e, isAggT P e with
  | some n, some by_, some z, some g =>
   if 0 ≤ l ∧ l ≤ c ∧ 0 < c ∧ c.toNat * (by_ + 1) ≤ 140737488355328 ∧ 0 < n ∧ z.length = n then some (.mr H.length 0 l.toNat n g, H ++ [(List.range (c.toNat * n)).map fun k => z.getD (k % n) .un]) else none
  | _, _, _, _ => none
 | _, _, _ => none
def bytesM (H : Heap) : AV → Option ByteArray
 | .mr j off len 1 false => if len = 0 then some ⟨#[]⟩ else (H[j]?).bind fun cs => if off + len ≤ cs.length ∧ isMv cs = false then bytesOfA ((cs.drop off).take len) else none
 | _ => none
def convM (P : Program) (H : Heap) (s d : TypeId) (a : AV) : Option (AV × Heap) :=
 match P.underlying s, P.underlying d with
 | some .string, some (.slice e) => match P.underlying e, a with
  | some (.int .u8), .v (.string y) => if y.size ≤ 140737488355328 then some (.mr H.length 0 y.size 1 false, H ++ [y.data.toList.map byteA]) else none
  | _, _ => none
 | some (.slice e), some .string => match P.underlying e with
  | some (.int .u8) => (bytesM H a).map fun x => (.s x, H)
  | _ => none
 | some (.slice e), some (.slice _) => match P.underlying e, a with
  | some (.int .u8), .mr j off len n g => (H[j]?).bind fun cs => if s = d ∧ cs ≠ [] ∧ plainRow cs = true then some (.mr j off len n g, H) else none
  | _, _ => none
 | _, _ => none
def AV.plainV : AV → Bool
 | .v x => x.oneCell'
 | _ => false
def buildM (P : Program) (H : Heap) (t : TypeId) (len : Nat) (parts : List (Nat × AV)) : Option (AV × Heap) :=
 (buildSliceA P t len parts).bind fun _ => (elemOfT P t).bind fun e =>
  if sizeT P e = some 1 ∧ isAggT P e = some false ∧ 0 < len ∧ (parts.all fun p => p.2.plainV) = true then some (.mr H.length 0 len 1 false, H ++ [parts.map (·.2)]) else none
def sliceM (P : Program) (H : Heap) (t : TypeId) (a : AV) (lo hi mx : Option AV) : Option (AV × Heap) :=
 match P.underlying t, a, mx with
 | some (.array len e), .ptr j off, none => (sizeT P e).bind fun n => (isAggT P e).bind fun g => (H[j]?).bind fun cs =>
  if 0 < n ∧ plainRow cs = true ∧ off + len * n ≤ cs.length ∧ len ≤ 140737488355328 ∧ sizeT P t = some (len * n) then
   (bound len hi len).bind fun h => (bound h lo 0).bind fun l => some (if l < len then .mr j (off + l * n) (h - l) n g else .sl [], H) else none
 | _, _, _ => none
def copyM (P : Program) (H : Heap) (t u : TypeId) (a b : AV) : Option (AV × Heap) :=
 match P.underlying t, P.underlying u, a, b with
 | some (.slice e), some (.slice _), .sl [], .sl ys => if sizeT P e = some 1 ∧ (∀ a ∈ ys, a.cells.length = 1) then some (.i 0, H) else none
 | some (.slice e), some (.slice _), .mr j off len 1 false, .sl ys =>
  if sizeT P e = some 1 ∧ (∀ a ∈ ys, a.cells.length = 1 ∧ a.cells.all AV.one = true) then
   (if ys.length = 0 ∨ len = 0 then some (.i 0, H) else (H[j]?).bind fun cs => if off + len ≤ cs.length ∧ cs.all AV.one = true then
    some (.i (min ys.length len : Nat), H.set j (cs.take off ++ (ys.take len).flatMap AV.cells ++ cs.drop (off + min ys.length len))) else none) else none
 | _, _, _, _ => none
def buildT (P : Program) (H : Heap) (t : TypeId) (len : Nat) (parts : List (Nat × AV)) : Option (AV × Heap) :=
 if len = 0 then (buildSliceA P t len parts).map fun _ => (.ow [] 0, H) else none
def tkA (P : Program) (e : Env) (H : Heap) : Op → Option (AV × Heap)
 | .assign (.const x) => if isNilV x = true then some (nilA, H) else none
 | .call { callee := .builtin .append, args, argTypes } => match args.toList, argTypes.toList with
  | [x, y], [t, u] => appendT P H t u (ev e x) (viewR P H u (ev e y))
  | _, _ => none
 | .buildSlice t len parts => buildT P H t len (parts.toList.map fun p => (p.1, ev e p.2))
 | _ => none
def muA (P : Program) (e : Env) (H : Heap) : Op → Option (AV × Heap)
 | .assign (.const x) => if isNilV x = true then some (nilA, H) else none
 | .assign (.tmp s) => match e s with
  | .mr j off len n g => (H[j]?).bind fun cs => if (g = true ∨ n = 1) ∧ 0 < len ∧ off + len * n ≤ cs.length ∧ cs.all AV.one = true then some (.sl (chunk g n len (cs.drop off)), H.set j []) else none
  | .v x => if isNilV x = true then some (.sl [], H) else none
  | .ow xs _ => some (.sl xs, H)
  | .sl xs => some (.sl xs, H)
  | _ => none
 | .call { callee := .builtin .append, args, argTypes } => match args.toList, argTypes.toList with
  | [x, y], [t, u] => appendM P H t u (ev e x) (viewR P H u (ev e y))
  | _, _ => none
 | .makeSlice t l c => makeA P H t (ev e l) (ev e c)
 | .convert s d x => convM P H s d (ev e x)
 | .buildSlice t len parts => buildM P H t len (parts.toList.map fun p => (p.1, ev e p.2))
 | .slice t x lo hi mx => sliceM P H t (ev e x) (lo.map (ev e)) (hi.map (ev e)) (mx.map (ev e))
 | .call { callee := .builtin .copy, args, argTypes } => match args.toList, argTypes.toList with
  | [x, y], [t, u] => copyM P H t u (ev e x) (owA (ev e y))
  | _, _ => none
 | _ => none
abbrev CallF := FuncId → List AV → Heap → Option (AV × Heap)
structure Sig where
 ps : List (Option Nat) := []
 rs : List (Nat × Nat) := []
structure Cfg where
 ext : FuncId → Option (List AV → Heap → Option (AV × Heap)) := fun _ => none
 ok : FuncId → Bool
 dyn : FuncId → Bool := fun _ => false
 sig : FuncId → Sig
 muF : FuncId → Nat → Bool := fun _ _ => false
 mu : Nat → Bool := fun _ => false
 fzF : FuncId → Nat → Bool := fun _ _ => false
 fz : Nat → Bool := fun _ => false
 tkF : FuncId → Nat → Bool := fun _ _ => false
 tk : Nat → Bool := fun _ => false
 raw : FuncId → Bool := fun _ => false
 alt : FuncId → Option (List AV → Heap → Option (AV × Heap)) := fun _ => none
def Cfg.at (C : Cfg) (f : FuncId) : Cfg := { C with mu := C.muF f, fz := C.fzF f, tk := C.tkF f }
def Cfg.isTk (C : Cfg) : Option Nat → Bool
 | some d => C.tk d
 | none => false
def Cfg.isMu (C : Cfg) : Option Nat → Bool
 | some d => C.mu d
 | none => false
def Cfg.altD (C : Cfg) (d : Option Nat) (g : FuncId) : Option (List AV → Heap → Option (AV × Heap)) := bif C.isMu d then C.alt g else none
def Cfg.via (C : Cfg) (d : Option Nat) (call : CallF) : CallF := fun g args H => match C.altD d g with
 | some s => s args H
 | none => call g args H
def Cfg.sigD (C : Cfg) (d : Option Nat) (g : FuncId) : Sig := match C.altD d g with
 | some _ => {}
 | none => C.sig g
def Cfg.isFz (C : Cfg) : Option Nat → Bool
 | some d => C.fz d
 | none => false
def muOp : Op → Bool
 | .assign (.const x) => isNilV x
 | .call { callee := .builtin .append, .. } => true
 | .makeSlice .. => true
 | .convert .. => true
 | .buildSlice .. => true
 | .slice .. => true
 | .call { callee := .builtin .copy, .. } => true
 | _ => false
def tkOp : Op → Bool
 | .assign (.const x) => isNilV x
 | .call { callee := .builtin .append, .. } => true
 | .buildSlice .. => true
 | _ => false
def fzOp : Op → Bool
 | .assign (.tmp _) => true
 | _ => false
def Cfg.spec (C : Cfg) (d : Option Nat) (o : Op) : Bool := (C.isMu d && muOp o) || (C.isFz d && fzOp o) || (C.isTk d && tkOp o)
def argE (C : Cfg) (g : FuncId) (e : Env) (x : Operand) : AV := bif C.raw g then evX e x else plainA (ev e x)
def stepB (P : Program) (C : Cfg) (call : CallF) (e : Env) (H : Heap) (o : Op) : Option (AV × Heap) :=
 match o with
 | .call { callee := .value f, args, .. } =>
  match f, ev e f with
  | .func g, _ => call g (args.toList.map fun x => argE C g e x) H
  | _, .fn g caps => if C.dyn g = true then call g (args.toList.map (fun x => argE C g e x) ++ caps) H else none
  | _, _ => none
 | o => opA P e H o
def effOp : Op → Bool
 | .assign _ | .store .. | .alloc _ | .box .. | .buildSlice .. | .makeMap .. | .lookup .. | .mapUpdate .. | .insert .. | .makeSlice .. => true
 | .call { callee := .value _, .. } => true
 | .call { callee := .builtin .append, .. } => true
 | .call { callee := .builtin .delete, .. } => true
 | _ => false
def stepA (P : Program) (C : Cfg) (call : CallF) (d : Option Nat) (e : Env) (H : Heap) (o : Op) : Option (AV × Heap) :=
 if C.spec d o = true then (if C.isTk d = true then tkA P e H o else muA P e H o) else stepB P C (C.via d call) e H o
def skipA : AV := .tup []
def wants (all : Array Oper) (e : Env) (o : Oper) : Option Bool :=
 match o.guard with
 | none => some true
 | some (j, want) => match (all[j]?).bind (·.dst) with
  | some d => match e d with
   | .v (.bool b) => some (b == want)
   | .tup xs => if xs.isEmpty = true then some false else none
   | _ => none
  | none => none
def lops (P : Program) (C : Cfg) (call : CallF) (all : Array Oper) : List Oper → Env → Heap → Option (Env × Heap)
 | [], e, H => some (e, H)
 | o :: r, e, H =>
  match wants all e o with
  | none => none
  | some false => lops P C call all r (put e o.dst skipA) H
  | some true => (stepA P C call o.dst e H o.op).bind fun (a, H') => lops P C call all r (put e o.dst a) H'
def hasE (all : Array Oper) (i j : Nat) : Bool := ((all[i]?).map fun o => o.after.any fun e => Region.binds .any e && e.on == j).getD false
def reachE (all : Array Oper) : Nat → Nat → Nat → Bool
 | 0, _, _ => false
 | k + 1, i, j => hasE all i j || ((all[i]?).map fun o => o.after.any fun e => Region.binds .any e && reachE all k e.on j).getD false
def pureOp : Op → Bool
 | .move _ | .pick .. | .build .. | .load .. | .nilCheck _ | .binOp .. | .unOp .. | .convert .. | .makeFunc .. | .slice .. | .fieldAddr .. | .field .. | .indexAddr .. | .index .. | .extract .. => true
 | .call { callee := .builtin .len, .. } | .call { callee := .builtin .min, .. } | .call { callee := .builtin .max, .. } => true
 | _ => false
def buildOp : Op → Bool
 | .buildSlice .. => true
 | _ => false
def alO : Op → Bool
 | .alloc _ => true
 | .box .. => true
 | _ => false
def reachL (all : Array Oper) (i j : Nat) : Bool := reachE all 8 i j && !((all[j]?).map fun o => alO o.op).getD false
structure Seen where
 snaps : List (Nat × Heap) := []
 loads : List (Nat × TypeId × AV × AV) := []
open Classical in
noncomputable def seenOK (P : Program) (all : Array Oper) (i : Nat) (e : Env) (S : Seen) (o : Op) (a : AV) (H H' : Heap) : Option Seen :=
 match o with
 | .load t p => if ∀ s ∈ S.snaps, reachL all i s.1 = true ∨ loadA P s.2 t (ev e p) = some a then some { S with loads := (i, t, ev e p, a) :: S.loads } else none
 | .slice t x _ _ _ => match ev e x with
  | .ptr j off => (loadA P H t (.ptr j off)).bind fun v => if ∀ s ∈ S.snaps, reachL all i s.1 = true ∨ loadA P s.2 t (.ptr j off) = some v then some { S with loads := (i, t, .ptr j off, v) :: S.loads } else none
  | _ => some S
 | o => if effOp o = true then (if ∀ l ∈ S.loads, reachE all 8 i l.1 = true ∨ loadA P H' l.2.1 l.2.2.1 = some l.2.2.2 then some { S with snaps := (i, H) :: S.snaps } else none) else some S
def rdO (P : Program) (e : Env) (H : Heap) (o : Op) (a : AV) : Option (TypeId × AV × AV) :=
 match o with
 | .load t p => some (t, ev e p, a)
 | .slice t x _ _ _ => match ev e x with
  | .ptr j off => (loadA P H t (.ptr j off)).map fun v => (t, .ptr j off, v)
  | _ => none
 | _ => none
noncomputable def lopsD (P : Program) (C : Cfg) (call : CallF) (all : Array Oper) : Nat → List Oper → Env → Heap → Seen → Option (Env × Heap)
 | _, [], e, H, _ => some (e, H)
 | i, o :: r, e, H, S =>
  match wants all e o with
  | none => none
  | some false => lopsD P C call all (i + 1) r (put e o.dst skipA) H S
  | some true => (stepA P C call o.dst e H o.op).bind fun (a, H') => (seenOK P all i e S o.op a H H').bind fun S' => lopsD P C call all (i + 1) r (put e o.dst a) H' S'
inductive Ex where
 | normal
 | exit (id : Nat)
 | ret
 deriving DecidableEq
noncomputable def lcode (P : Program) (C : Cfg) (call : CallF) : Nat → Code → Env → Heap → Option (Ex × Env × Heap)
 | 0, _, _, _ => none
 | _ + 1, .skip, e, H => some (.normal, e, H)
 | _ + 1, .region _ ops false, e, H => (lops P C call ops ops.toList e H).map fun (e, H) => (.normal, e, H)
 | _ + 1, .region _ ops true, e, H => (lopsD P C call ops 0 ops.toList e H {}).map fun (e, H) => (.normal, e, H)
 | n + 1, .seq a b, e, H =>
  match lcode P C call n a e H with
  | some (.normal, e, H) => lcode P C call n b e H
  | r => r
 | n + 1, .cond c a b, e, H =>
  match ev e c with
  | .v (.bool t) => if t = true then lcode P C call n a e H else lcode P C call n b e H
  | _ => none
 | n + 1, .block id a, e, H =>
  match lcode P C call n a e H with
  | some (.exit i, e, H) => if i = id then some (.normal, e, H) else some (.exit i, e, H)
  | r => r
 | n + 1, .loop a, e, H =>
  match lcode P C call n a e H with
  | some (.normal, e, H) => lcode P C call n (.loop a) e H
  | r => r
 | _ + 1, .exit id, e, H => some (.exit id, e, H)
 | _ + 1, .ret, e, H => some (.ret, e, H)
 | _ + 1, _, _, _ => none
def resA (P : Program) (e : Env) (H : Heap) : ResultVar → Option AV
 | .tmp t => some (e t)
 | .cell p t => loadA P H t (e p)
def resultsA (P : Program) (fn : Func) (e : Env) (H : Heap) : Option AV :=
 match fn.results.toList.mapM (resA P e H) with
 | some [a] => some a
 | some as_ => some (.tup as_)
 | none => none
def env0 (args : List AV) : Env := fun t => args.getD t .un
noncomputable def lcall (P : Program) (C : Cfg) : Nat → CallF
 | 0, _, _, _ => none
 | n + 1, f, args, H =>
  match C.ext f with
  | some g => g args H
  | none =>
   if C.ok f = true then
    match P.funcs[f]? with
    | some fn => match fn.body with
     | some c => match lcode P (C.at f) (lcall P C n) n c (env0 args) H with
      | some (.exit _, _, _) => none
      | some (_, e, H) => (resultsA P fn e H).map fun a => (a, H)
      | none => none
     | none => none
    | none => none
   else none
end Go.Lv
