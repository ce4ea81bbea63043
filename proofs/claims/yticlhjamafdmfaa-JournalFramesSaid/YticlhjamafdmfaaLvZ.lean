import Derived.Test.YticlhjamafdmfaaLvY
set_option linter.unusedVariables false
set_option linter.unusedSimpArgs false
/-! append, building, slicing, for rewriting. -/
namespace Go.Lv
section
variable {P : Program} {e : Env} {H : Heap} {k k' : IntKind} {x y : Int}

/-! ### append -/
def appendD (P : Program) (u v : Option TypeDesc) (a b : AV) : Option AV :=
  match u, v, a, b with
  | some (.slice e), some (.slice _), .sl xs, .sl ys =>
    match sizeT P e, bytesT P e, zeroA P e with
    | some n, some by_, some z => if 0 < n ∧ z.length = n ∧ (xs.length + ys.length) * (by_ + 1) ≤ 140737488355328 ∧ (∀ a ∈ xs, a.cells.length = n) ∧ (∀ a ∈ ys, a.cells.length = n) then some (.sl (xs ++ ys)) else none
    | _, _, _ => none
  | some (.slice e), some .string, .sl xs, .v (.string s) =>
    match sizeT P e, bytesT P e, zeroA P e with
    | some 1, some 1, some [_] => if (xs.length + s.size) * 2 ≤ 140737488355328 ∧ (∀ a ∈ xs, a.cells.length = 1) then some (.sl (xs ++ s.data.toList.map byteA)) else none
    | _, _, _ => none
  | _, _, _, _ => none
@[go_sem] theorem builtin_append_sl {t u : TypeId} {xs ys : List AV} : builtinA P .append [t, u] [.sl xs, .sl ys] = appendD P (P.underlying t) (P.underlying u) (.sl xs) (.sl ys) := by
  show (match P.underlying t, P.underlying u with
    | some (.slice e), some (.slice _) =>
      match sizeT P e, bytesT P e, zeroA P e with
      | some n, some by_, some z => if 0 < n ∧ z.length = n ∧ (xs.length + ys.length) * (by_ + 1) ≤ 140737488355328 ∧ (∀ a ∈ xs, a.cells.length = n) ∧ (∀ a ∈ ys, a.cells.length = n) then some (AV.sl (xs ++ ys)) else none
      | _, _, _ => none
    | _, _ => none) = _
  generalize P.underlying t = a; generalize P.underlying u = b
  cases a with
  | none => rfl
  | some a =>
    cases a with
    | slice el => cases b with
      | none => rfl
      | some b => cases b <;> rfl
    | _ => rfl
@[go_sem] theorem builtin_append_str {t u : TypeId} {xs : List AV} {l : List UInt8} : builtinA P .append [t, u] [.sl xs, AV.str l] = appendD P (P.underlying t) (P.underlying u) (.sl xs) (AV.str l) := by
  show (match P.underlying t, P.underlying u with
    | some (.slice e), some .string =>
      match sizeT P e, bytesT P e, zeroA P e with
      | some 1, some 1, some [_] => if (xs.length + l.length) * 2 ≤ 140737488355328 ∧ (∀ a ∈ xs, a.cells.length = 1) then some (AV.sl (xs ++ l.map byteA)) else none
      | _, _, _ => none
    | _, _ => none) = _
  generalize P.underlying t = a; generalize P.underlying u = b
  cases a with
  | none => rfl
  | some a =>
    cases a with
    | slice el => cases b with
      | none => rfl
      | some b => cases b <;> rfl
    | _ => rfl
/-- Room for so many elements: size, bytes, what stands there at first. -/
def roomD (n : Nat) (s b : Option Nat) (z : Option (List AV)) (len : Int) (r : AV) : Option AV :=
  match s, b, z with
  | some m, some by_, some z => if m = n ∧ 0 < n ∧ z.length = n ∧ len * (by_ + 1) ≤ 140737488355328 then some r else none
  | _, _, _ => none
@[go_sem] theorem roomD_ok {n by_ : Nat} {z : List AV} {len : Int} {r : AV} (h0 : (0 : Int) < n) (h1 : (z.length : Int) = n) (h : len * (by_ + 1) ≤ 140737488355328) : roomD n (some n) (some by_) (some z) len r = some r := by
  have h2 : z.length = n := by omega
  have h3 : 0 < n := by omega
  unfold roomD
  simp only
  simp only [true_and]
  rw [if_pos ⟨h3, h2, h⟩]
def nD (n : Nat) (s : Option Nat) (a : Option AV) : Option AV := if s = some n then a else none
@[go_sem] theorem nD_same {n : Nat} {a : Option AV} : nD n (some n) a = a := by simp [nD]
theorem appendD_n {n : Nat} {xs ys : List AV} {el el' : TypeId} (hx : ∀ a ∈ xs, a.cells.length = n) (hy : ∀ a ∈ ys, a.cells.length = n) (h : sizeT P el = some n) :
    appendD P (some (.slice el)) (some (.slice el')) (.sl xs) (.sl ys) = roomD n (sizeT P el) (bytesT P el) (zeroA P el) (xs.length + ys.length) (.sl (xs ++ ys)) := by
  unfold appendD roomD
  simp only [h]
  cases bytesT P el with
  | none => rfl
  | some by_ =>
    cases zeroA P el with
    | none => rfl
    | some z =>
      have hc : ((xs.length : Int) + ys.length) * (by_ + 1) ≤ 140737488355328 ↔ (xs.length + ys.length) * (by_ + 1) ≤ 140737488355328 := by
        rw [show ((xs.length : Int) + ys.length) * (by_ + 1) = (((xs.length + ys.length) * (by_ + 1) : Nat) : Int) by push_cast; rfl]
        omega
      simp only [true_and, hc, show (∀ a ∈ xs, a.cells.length = n) ↔ True from iff_true_intro hx, show (∀ a ∈ ys, a.cells.length = n) ↔ True from iff_true_intro hy, and_true]
theorem map_cells {α : Type} {f : α → AV} {n : Nat} [hf : CellsN f n] (xs : List α) : ∀ a ∈ xs.map f, a.cells.length = n := by
  intro a ha
  obtain ⟨x, _, rfl⟩ := List.mem_map.1 ha
  exact hf.h x

/-! ### Types, known by instances -/
class UndIs (P : Program) (t : TypeId) (d : outParam TypeDesc) : Prop where
  h : P.underlying t = some d
class SizeIs (P : Program) (t : TypeId) (n : outParam Nat) : Prop where
  h : sizeT P t = some n
class BytesIs (P : Program) (t : TypeId) (n : outParam Nat) : Prop where
  h : bytesT P t = some n
class ZeroIs (P : Program) (t : TypeId) (z : outParam (List AV)) : Prop where
  h : zeroA P t = some z
class AggIs (P : Program) (t : TypeId) (b : outParam Bool) : Prop where
  h : isAggT P t = some b
@[go_sem] theorem und_is {t : TypeId} {d : TypeDesc} [h : UndIs P t d] : P.underlying t = some d := h.h
@[go_sem] theorem size_is {t : TypeId} {n : Nat} [h : SizeIs P t n] : sizeT P t = some n := h.h
@[go_sem] theorem bytes_is {t : TypeId} {n : Nat} [h : BytesIs P t n] : bytesT P t = some n := h.h
@[go_sem] theorem zero_is {t : TypeId} {z : List AV} [h : ZeroIs P t z] : zeroA P t = some z := h.h
@[go_sem] theorem agg_is {t : TypeId} {b : Bool} [h : AggIs P t b] : isAggT P t = some b := h.h

/-- Elements that may stand in memory. -/
class OneOK {α : Type} (f : α → AV) : Prop where
  h : ∀ x, (f x).cells.all AV.one = true
instance : OneOK (fun n : Int => AV.v (.int .i64 n)) := ⟨fun _ => rfl⟩
instance : OneOK (fun n : Bool => AV.v (.bool n)) := ⟨fun _ => rfl⟩
instance : OneOK AV.str := ⟨fun _ => rfl⟩
instance : OneOK byteA := ⟨fun _ => rfl⟩
instance : OneOK AV.bytes := ⟨fun _ => rfl⟩

/-- Rows of one kind laid behind each other. -/
@[go_sem] theorem append_map {α : Type} {f : α → AV} {n : Nat} [hf : CellsN f n] {xs ys : List α} {el el' : TypeId} [h : SizeIs P el n] :
    appendD P (some (.slice el)) (some (.slice el')) (.sl (xs.map f)) (.sl (ys.map f)) = roomD n (sizeT P el) (bytesT P el) (zeroA P el) (xs.length + ys.length) (.sl ((xs ++ ys).map f)) := by
  rw [appendD_n (map_cells xs) (map_cells ys) h.h]
  simp
@[go_sem] theorem append_one {α : Type} {f : α → AV} {n : Nat} [hf : CellsN f n] {xs : List α} {y : α} {el el' : TypeId} [h : SizeIs P el n] :
    appendD P (some (.slice el)) (some (.slice el')) (.sl (xs.map f)) (.sl [f y]) = roomD n (sizeT P el) (bytesT P el) (zeroA P el) (xs.length + 1) (.sl ((xs ++ [y]).map f)) := by
  have := append_map (P := P) (f := f) (xs := xs) (ys := [y]) (el := el) (el' := el')
  simpa using this
@[go_sem] theorem append_byte {xs : List UInt8} {n : Int} {el el' : TypeId} [h : SizeIs P el 1] (h0 : 0 ≤ n) (h1 : n < 256) :
    appendD P (some (.slice el)) (some (.slice el')) (.sl (xs.map byteA)) (.sl [.v (.int .u8 n)]) = roomD 1 (sizeT P el) (bytesT P el) (zeroA P el) (xs.length + 1) (.sl ((xs ++ [UInt8.ofNat n.toNat]).map byteA)) := by
  have hb : AV.v (.int .u8 n) = byteA (UInt8.ofNat n.toNat) := by
    have : (UInt8.ofNat n.toNat).toNat = n.toNat := by simp [UInt8.toNat_ofNat']; omega
    unfold byteA
    rw [this]
    congr; omega
  rw [hb]
  exact append_one
@[go_sem] theorem append_str {xs l : List UInt8} {el : TypeId} [h1 : SizeIs P el 1] [h2 : BytesIs P el 1] :
    appendD P (some (.slice el)) (some .string) (.sl (xs.map byteA)) (AV.str l) = roomD 1 (sizeT P el) (bytesT P el) (zeroA P el) (xs.length + l.length) (.sl ((xs ++ l).map byteA)) := by
  show (match sizeT P el, bytesT P el, zeroA P el with
      | some 1, some 1, some [_] => if ((xs.map byteA).length + l.length) * 2 ≤ 140737488355328 ∧ (∀ a ∈ xs.map byteA, a.cells.length = 1) then some (AV.sl (xs.map byteA ++ l.map byteA)) else none
      | _, _, _ => none) = _
  rw [h1.h, h2.h]
  simp only [show (∀ a ∈ xs.map byteA, a.cells.length = 1) ↔ True from iff_true_intro (map_cells xs), and_true, List.length_map, roomD, true_and, Nat.lt_add_one, Nat.zero_lt_one]
  cases zeroA P el with
  | none => rfl
  | some z =>
    cases z with
    | nil => simp
    | cons a z =>
      cases z with
      | nil =>
        have hc : ((xs.length : Int) + l.length) * (((1 : Nat) : Int) + 1) ≤ 140737488355328 ↔ (xs.length + l.length) * 2 ≤ 140737488355328 := by omega
        simp only [hc, List.length_singleton, true_and, List.map_append]
      | cons b z => simp
/-- Behind nothing. -/
@[go_sem] theorem append_nil {α : Type} {f : α → AV} {n : Nat} [hf : CellsN f n] {ys : List α} {el el' : TypeId} [h : SizeIs P el n] :
    appendD P (some (.slice el)) (some (.slice el')) (.sl []) (.sl (ys.map f)) = roomD n (sizeT P el) (bytesT P el) (zeroA P el) ys.length (.sl (ys.map f)) := by
  have := append_map (P := P) (f := f) (xs := []) (ys := ys) (el := el) (el' := el')
  simpa using this
@[go_sem] theorem append_same {α : Type} {f : α → AV} {n : Nat} [hf : CellsN f n] {xs : List α} {el el' : TypeId} [h : SizeIs P el n] :
    appendD P (some (.slice el)) (some (.slice el')) (.sl (xs.map f)) (.sl []) = roomD n (sizeT P el) (bytesT P el) (zeroA P el) xs.length (.sl (xs.map f)) := by
  have := append_map (P := P) (f := f) (xs := xs) (ys := []) (el := el) (el' := el')
  simpa using this

/-! ### Literals of slices -/
def goodParts (n i len : Nat) : List (Nat × AV) → Bool
  | [] => i == len
  | (j, a) :: r => j == i && (a.cells.length == n && (a.cells.all AV.one && goodParts n (i + 1) len r))
def okD (c : Bool) (r : AV) : Option AV := bif c then some r else none
@[go_sem] theorem okD_true {r : AV} : okD true r = some r := rfl
theorem goodParts_ok {n len : Nat} : ∀ (l : List (Nat × AV)) (i : Nat), goodParts n i len l = true ↔ i + l.length = len ∧ l.map (·.1) = List.range' i l.length ∧ ∀ p ∈ l, p.2.cells.length = n ∧ p.2.cells.all AV.one = true := by
  intro l
  induction l with
  | nil => intro i; simp [goodParts]
  | cons p l ih =>
    intro i
    obtain ⟨j, a⟩ := p
    simp only [goodParts, Bool.and_eq_true, beq_iff_eq, ih, List.length_cons, List.map_cons, List.range'_succ, List.cons.injEq, List.forall_mem_cons]
    constructor
    · rintro ⟨h1, h2, h3, h4, h5, h6⟩; exact ⟨by omega, ⟨h1, h5⟩, ⟨h2, h3⟩, h6⟩
    · rintro ⟨h4, ⟨h1, h5⟩, ⟨h2, h3⟩, h6⟩; exact ⟨h1, h2, h3, by omega, h5, h6⟩
@[go_sem] theorem buildSlice_is {t el : TypeId} {n len : Nat} {z : List AV} [hu : UndIs P t (.slice el)] [hs : SizeIs P el n] [hz : ZeroIs P el z] {parts : List (Nat × AV)} (h0 : (0 : Int) < n) (hl : (len : Int) * n ≤ 65536) (hzl : (z.length : Int) = n) :
    buildSliceA P t len parts = okD (goodParts n 0 len parts) (.sl (parts.map (·.2))) := by
  have e1 : (elemOfT P t) = some el := by unfold elemOfT; rw [hu.h]
  unfold buildSliceA
  rw [e1]
  simp only [Option.bind_some, hs.h, hz.h, Option.map_some]
  have h1 : z.length = n := by omega
  have h2 : 0 < n := by omega
  have h3 : len * n ≤ 65536 := by
    have : ((len * n : Nat) : Int) ≤ 65536 := by push_cast; exact hl
    omega
  simp only [h1, h2, h3, true_and, and_true]
  unfold okD
  have h4 := goodParts_ok (n := n) (len := len) parts 0
  by_cases hg : goodParts n 0 len parts = true
  · rw [hg]
    obtain ⟨h5, h6, h7⟩ := h4.1 hg
    rw [if_pos]; rfl
    refine ⟨?_, h7⟩
    rw [h6, List.range_eq_range']; congr 1; omega
  · rw [if_neg]
    · simp [hg]
    · rintro ⟨h5, h7⟩
      refine hg (h4.2 ⟨?_, ?_, h7⟩)
      · have := congrArg List.length h5
        simp at this; omega
      · have := congrArg List.length h5
        simp at this
        rw [h5, this, List.range_eq_range']
def cellsOK (n : Nat) (a : AV) : Bool := a.cells.length == n && a.cells.all AV.one
@[go_sem] theorem goodParts_nil {n i len : Nat} : goodParts n i len [] = (i == len) := rfl
@[go_sem] theorem goodParts_cons {n i len j : Nat} {a : AV} {r : List (Nat × AV)} : goodParts n i len ((j, a) :: r) = (j == i && (cellsOK n a && goodParts n (i + 1) len r)) := by
  simp [goodParts, cellsOK, Bool.and_assoc]
@[go_sem] theorem cellsOK_v {x : Value} : cellsOK 1 (.v x) = true := rfl
@[go_sem] theorem cellsOK_str {l : List UInt8} : cellsOK 1 (AV.str l) = true := rfl
@[go_sem] theorem cellsOK_byte {b : UInt8} : cellsOK 1 (byteA b) = true := rfl
@[go_sem] theorem cellsOK_sl {xs : List AV} : cellsOK 1 (.sl xs) = true := rfl
@[go_sem] theorem cellsOK_fn {f : FuncId} {xs : List AV} : cellsOK 1 (.fn f xs) = true := rfl
@[go_sem] theorem cellsOK_ptr {j off : Nat} : cellsOK 1 (.ptr j off) = true := rfl
theorem cellsOK_of {α : Type} {f : α → AV} {n : Nat} [hf : CellsN f n] [ho : OneOK f] (x : α) : cellsOK n (f x) = true := by
  simp [cellsOK, hf.h x, ho.h x]
attribute [go_sem] Nat.sub_zero Nat.zero_add Nat.add_zero Nat.mul_one or_true Int.toNat_natCast Bool.not_true Bool.not_false List.take_length List.drop_zero Bool.or_false Bool.false_or Bool.or_true Bool.true_or beq_self_eq_true Bool.true_and Bool.and_true Bool.false_and Bool.and_false Nat.reduceAdd
/-! ### Slices -/
@[go_sem] theorem bound_none {n d : Nat} : bound n none d = some d := rfl
@[go_sem] theorem bound_some {n d : Nat} {i : Int} (h0 : 0 ≤ i) (h1 : i ≤ n) : bound n (some (.v (.int k i))) d = some i.toNat := by simp [bound, h0, h1]
@[go_sem] theorem slice_str {t : TypeId} {l : List UInt8} {lo hi : Option AV} [hu : UndIs P t .string] :
    sliceA P t (AV.str l) lo hi none = (bound l.length hi l.length).bind fun h => (bound h lo 0).bind fun b => some (AV.str ((l.take h).drop b)) := by
  unfold sliceA
  rw [hu.h]
  show ((bound l.length hi l.length).bind fun h => (bound h lo 0).bind fun b => some (AV.s ((⟨⟨l⟩⟩ : ByteArray).extract b h))) = _
  congr 1; funext h; congr 1; funext b
  have hx : ∀ x y : ByteArray, x.data.toList = y.data.toList → x = y := by
    intro x y h; cases x; cases y; rename_i a b; cases a; cases b; simpa using h
  have : (⟨⟨l⟩⟩ : ByteArray).extract b h = ⟨⟨(l.take h).drop b⟩⟩ := hx _ _ (by simp [List.extract_eq_take_drop, List.drop_take])
  rw [this]; rfl
@[go_sem] theorem slice_map {α : Type} {f : α → AV} {n : Nat} [hf : CellsN f n] {t el : TypeId} [hu : UndIs P t (.slice el)] [hs : SizeIs P el n] {xs : List α} {lo hi : Option AV} (hn : (0 : Int) < n) :
    sliceA P t (.sl (xs.map f)) lo hi none = (bound xs.length hi xs.length).bind fun h => (bound h lo 0).bind fun b => some (.sl (((xs.take h).drop b).map f)) := by
  unfold sliceA
  rw [hu.h]
  simp only [hs.h, Option.bind_some]
  rw [if_pos ⟨by omega, map_cells xs⟩]
  simp
attribute [go_sem] Option.bind_some
/-! ### Bytes as numbers -/
@[go_sem] theorem bin_byte1 {op : BinOp} {t : TypeId} {b : UInt8} {a : AV} : bin P op t (byteA b) a = bin P op t (.v (.int .u8 b.toNat)) a := rfl
@[go_sem] theorem bin_byte2 {op : BinOp} {t : TypeId} {b : UInt8} {v : Value} : bin P op t (.v v) (byteA b) = bin P op t (.v v) (.v (.int .u8 b.toNat)) := rfl
@[go_sem] theorem convD_byte {u v : Option TypeDesc} {b : UInt8} : convD P u v (byteA b) = convD P u v (.v (.int .u8 b.toNat)) := rfl
@[go_sem] theorem minA_byte {a b : UInt8} : minA (byteA a) (byteA b) = minA (.v (.int .u8 a.toNat)) (.v (.int .u8 b.toNat)) := rfl
/-! ### Rows that may be written -/
@[go_sem] theorem viewR_sl {t : TypeId} {xs : List AV} : viewR P H t (.sl xs) = .sl xs := rfl
@[go_sem] theorem viewR_ow {t : TypeId} {xs : List AV} {j : Nat} : viewR P H t (.ow xs j) = .sl xs := rfl
@[go_sem] theorem viewR_bytes {t : TypeId} {l : List UInt8} : viewR P H t (AV.bytes l) = .sl (l.map byteA) := rfl
@[go_sem] theorem viewR_nilA {t : TypeId} : viewR P H t nilA = .sl [] := rfl
@[go_sem] theorem viewR_str {t : TypeId} {l : List UInt8} : viewR P H t (AV.str l) = AV.str l := rfl
/-! ### The first environment -/
@[go_sem] theorem env0_zero {a : AV} {l : List AV} : env0 (a :: l) 0 = a := rfl
@[go_sem] theorem env0_succ {a : AV} {l : List AV} {n : Nat} : env0 (a :: l) (n + 1) = env0 l n := rfl
end
attribute [go_sem] and_self and_true true_and reduceIte Nat.reduceEqDiff Nat.reduceMul Nat.reduceSub Nat.reduceBEq Int.reduceNeg Int.reduceAdd Int.reduceSub Int.reduceMul Int.reduceToNat Int.reduceLT Int.reduceLE Int.reduceEq Int.reduceNe Int.reducePow Nat.reducePow Nat.reduceLT reduceCtorEq
end Go.Lv
