import Derived.Test.YticlhjamafdmfaaLvZ
set_option linter.unusedVariables false
set_option linter.unusedSimpArgs false
/-! Rows that may be written, of elements of one cell, in steps. -/
namespace Go.Lv
section
variable {P : Program} {H : Heap}

/-- An encoding of one cell without parts. -/
class Cell1 {α : Type} (f : α → AV) : Prop where
  c : ∀ x, (f x).cells = [f x]
  o : ∀ x, (f x).one = true
instance : Cell1 (fun n : Int => AV.v (.int .i64 n)) := ⟨fun _ => rfl, fun _ => rfl⟩
instance : Cell1 byteA := ⟨fun _ => rfl, fun _ => rfl⟩
instance : Cell1 AV.str := ⟨fun _ => rfl, fun _ => rfl⟩

theorem flatMap_cell1 {α : Type} {f : α → AV} [hf : Cell1 f] (xs : List α) : (xs.map f).flatMap AV.cells = xs.map f := by
  induction xs with
  | nil => rfl
  | cons x xs ih => simp [hf.c x, ih]
theorem all_cell1 {α : Type} {f : α → AV} [hf : Cell1 f] (xs : List α) : (xs.map f).all AV.one = true := by
  simp [List.all_eq_true, hf.o]

theorem appendM_nil {α : Type} {f : α → AV} [hf : Cell1 f] {t u el el' : TypeId} {by_ : Nat} {z : List AV} [ht : UndIs P t (.slice el)] [hu : UndIs P u (.slice el')] [hs : SizeIs P el 1] [hb : BytesIs P el by_] [hz : ZeroIs P el z] [ha : AggIs P el false]
    {ys : List α} (hzl : z.length = 1) (h0 : 0 < ys.length) (hle : (ys.length : Int) * (by_ + 1) ≤ 140737488355328) :
    appendM P H t u nilA (.sl (ys.map f)) = some (.mr H.length 0 ys.length 1 false, H ++ [ys.map f]) := by
  rw [appendM_cons (by simpa using h0)]
  unfold appendM1 nilA
  rw [ht.h, hu.h]
  simp only [hs.h, hb.h, hz.h, ha.h]
  have h1 : ∀ a ∈ ys.map f, a.cells.length = 1 ∧ a.cells.all AV.one = true := by
    intro a h
    obtain ⟨x, _, rfl⟩ := List.mem_map.1 h
    rw [hf.c]; simp [hf.o]
  have h2 : ys.length * (by_ + 1) ≤ 140737488355328 := by
    have : ((ys.length * (by_ + 1) : Nat) : Int) = (ys.length : Int) * (by_ + 1) := by push_cast; rfl
    omega
  rw [if_pos ⟨by omega, hzl, h1, by simpa using h0⟩, if_pos ⟨rfl, by rw [List.length_map]; exact h2⟩, flatMap_cell1, List.length_map]

theorem appendM_mr {α : Type} {f : α → AV} [hf : Cell1 f] {t u el el' : TypeId} {by_ : Nat} {z : List AV} [ht : UndIs P t (.slice el)] [hu : UndIs P u (.slice el')] [hs : SizeIs P el 1] [hb : BytesIs P el by_] [hz : ZeroIs P el z] [ha : AggIs P el false]
    {xs ys : List α} {j len : Nat} (hj : H[j]? = some (xs.map f)) (hl : len ≤ xs.length) (hx : 0 < xs.length) (hzl : z.length = 1) (h0 : 0 < ys.length) (hle : ((len : Int) + ys.length) * (by_ + 1) ≤ 140737488355328) :
    appendM P H t u (.mr j 0 len 1 false) (.sl (ys.map f)) = some (.mr H.length 0 (len + ys.length) 1 false, H.set j [] ++ [(xs.take len ++ ys).map f]) := by
  rw [appendM_cons (by simpa using h0)]
  unfold appendM1
  rw [ht.h, hu.h]
  simp only [hs.h, hb.h, hz.h, ha.h]
  have h1 : ∀ a ∈ ys.map f, a.cells.length = 1 ∧ a.cells.all AV.one = true := by
    intro a h
    obtain ⟨x, _, rfl⟩ := List.mem_map.1 h
    rw [hf.c]; simp [hf.o]
  have h2 : (len + ys.length) * (by_ + 1) ≤ 140737488355328 := by
    have : (((len + ys.length) * (by_ + 1) : Nat) : Int) = ((len : Int) + ys.length) * (by_ + 1) := by push_cast; rfl
    omega
  rw [if_pos ⟨by omega, hzl, h1, by simpa using h0⟩]
  simp only [List.length_map, flatMap_cell1, hj, Option.bind_some, Nat.mul_one]
  rw [if_pos ⟨trivial, trivial, h2, hl, by (intro h; simp at h; rw [h] at hx; simp at hx), plainRow_one (all_cell1 xs), by rw [← List.map_take]; exact all_cell1 _⟩]
  simp

theorem appendM_none {t u el el' : TypeId} {n : Nat} [ht : UndIs P t (.slice el)] [hu : UndIs P u (.slice el')] [hs : SizeIs P el n] {j off len : Nat} {g : Bool} (hn : (0 : Int) < n) : appendM P H t u (.mr j off len n g) (.sl []) = some (.mr j off len n g, H) := by
  show appendM0 P H t u (.mr j off len n g) = _
  unfold appendM0
  rw [ht.h, hu.h]
  simp only [hs.h]
  rw [if_pos ⟨trivial, by omega⟩]
theorem chunk_one : ∀ (k : Nat) (cs : List AV), k ≤ cs.length → chunk false 1 k cs = cs.take k := by
  intro k
  induction k with
  | zero => intro cs _; simp [chunk]
  | succ k ih =>
    intro cs h
    cases cs with
    | nil => simp at h
    | cons c cs => simp only [chunk, List.headD_cons, List.drop_succ_cons, List.drop_zero, List.take_succ_cons]; rw [ih cs (by simpa using h)]; simp

theorem freeze_mr {α : Type} {f : α → AV} [hf : Cell1 f] {xs : List α} {j off len : Nat} (hj : H[j]? = some (xs.map f)) (h0 : 0 < len) (hl : off + len ≤ xs.length) :
    freezeA H (.mr j off len 1 false) = some (.sl (((xs.drop off).take len).map f), H.set j []) := by
  unfold freezeA
  simp only [hj, Option.bind_some, Nat.mul_one, List.length_map]
  rw [if_pos ⟨.inr trivial, h0, hl, all_cell1 xs⟩, chunk_one _ _ (by simp; omega)]
  simp
@[go_sem] theorem freeze_ow {xs : List AV} {j : Nat} : freezeA H (.ow xs j) = some (.sl xs, H) := rfl
@[go_sem] theorem freeze_nil : freezeA H nilA = some (.sl [], H) := rfl

theorem view_mr {α : Type} {f : α → AV} [hf : Cell1 f] {t el : TypeId} [ht : UndIs P t (.slice el)] [hs : SizeIs P el 1] [ha : AggIs P el false] {xs : List α} {j off len : Nat} (hj : H[j]? = some (xs.map f)) (h0 : 0 < len) (hl : off + len ≤ xs.length) :
    viewR P H t (.mr j off len 1 false) = .sl (((xs.drop off).take len).map f) := by
  have e : elemOfT P t = some el := by unfold elemOfT; rw [ht.h]
  simp only [viewR, e, hj]
  rw [if_pos ⟨ha.h, hs.h, .inr trivial, h0, by simpa using hl, all_cell1 xs⟩, chunk_one _ _ (by simp; omega)]
  simp

/-- A row of one-cell elements that may be written, held in memory from n on. -/
def RowOf {α : Type} (f : α → AV) (n : Nat) (H : Heap) (a : AV) (xs : List α) : Prop :=
  (a = nilA ∧ xs = []) ∨ ∃ j, n ≤ j ∧ a = .mr j 0 xs.length 1 false ∧ H[j]? = some (xs.map f) ∧ 0 < xs.length

section
variable {α : Type} {f : α → AV} {n : Nat} {a : AV} {xs : List α}
theorem RowOf.nil : RowOf f n H nilA [] := .inl ⟨rfl, rfl⟩
theorem RowOf.len (h : RowOf f n H a xs) {el : TypeId} : lenD (some (.slice el)) (owA a) = some (.v (.int .i64 xs.length)) := by
  rcases h with ⟨rfl, rfl⟩ | ⟨j, _, rfl, _, _⟩ <;> rfl
theorem RowOf.ow (h : RowOf f n H a xs) : owA a = a := by
  rcases h with ⟨rfl, rfl⟩ | ⟨j, _, rfl, _, _⟩ <;> rfl
theorem pre_set {H0 H' : Heap} (hp : H0 <+: H') {j : Nat} (hj : H0.length ≤ j) (cs cs' : List AV) : H0 <+: H'.set j cs ++ [cs'] := by
  obtain ⟨G, rfl⟩ := hp
  rw [List.set_append_right _ _ hj, List.append_assoc]
  exact ⟨_, rfl⟩
theorem pre_set1 {H0 H' : Heap} (hp : H0 <+: H') {j : Nat} (hj : H0.length ≤ j) (cs : List AV) : H0 <+: H'.set j cs := by
  obtain ⟨G, rfl⟩ := hp
  rw [List.set_append_right _ _ hj]
  exact ⟨_, rfl⟩
theorem pre_add {H0 H' : Heap} (hp : H0 <+: H') (cs : List AV) : H0 <+: H' ++ [cs] := List.IsPrefix.trans hp (List.prefix_append _ _)
theorem pre_len {H0 H' : Heap} (hp : H0 <+: H') : H0.length ≤ H'.length := hp.length_le
theorem get_end {H : Heap} {j : Nat} {cs cs' : List AV} : (H.set j cs ++ [cs'])[H.length]? = some cs' := by
  rw [List.getElem?_append_right (by simp)]; simp

theorem bind_append [hf : Cell1 f] {H0 : Heap} {t u el el' : TypeId} {by_ : Nat} {z : List AV} [ht : UndIs P t (.slice el)] [hu : UndIs P u (.slice el')] [hs : SizeIs P el 1] [hb : BytesIs P el by_] [hz : ZeroIs P el z] [ha : AggIs P el false]
    {ys : List α} {Q : AV × Heap → Prop} (hr : RowOf f H0.length H a xs) (hp : H0 <+: H) (hzl : z.length = 1) (h0 : 0 < ys.length) (hle : ((xs.length : Int) + ys.length) * (by_ + 1) ≤ 140737488355328)
    (hq : ∀ a' H', RowOf f H0.length H' a' (xs ++ ys) → H0 <+: H' → Q (a', H')) : @bindP _ (appendM P H t u a (.sl (ys.map f))) ⟨Q⟩ := by
  rcases hr with ⟨rfl, rfl⟩ | ⟨j, hj, rfl, hH, hx⟩
  · rw [appendM_nil hzl h0 (by simpa using hle), bindP_some]
    refine hq _ _ (.inr ⟨H.length, pre_len hp, by simp, ?_, by simpa using h0⟩) (pre_add hp _)
    rw [List.getElem?_append_right (by omega)]; simp
  · rw [appendM_mr hH (Nat.le_refl _) hx hzl h0 hle, bindP_some]
    refine hq _ _ (.inr ⟨H.length, pre_len hp, by simp, ?_, by simp; omega⟩) (pre_set hp hj _ _)
    rw [get_end, List.take_length]
/-- Behind a beginning of such a row. -/
theorem bind_cut [hf : Cell1 f] {H0 : Heap} {j m : Nat} {t u el el' : TypeId} {by_ : Nat} {z : List AV} [ht : UndIs P t (.slice el)] [hu : UndIs P u (.slice el')] [hs : SizeIs P el 1] [hb : BytesIs P el by_] [hz : ZeroIs P el z] [ha : AggIs P el false]
    {ys : List α} {Q : AV × Heap → Prop} (hp : H0 <+: H) (hj : H0.length ≤ j) (hH : H[j]? = some (xs.map f)) (hx : 0 < xs.length) (hm : m ≤ xs.length) (hzl : z.length = 1) (h0 : 0 < ys.length) (hle : ((m : Int) + ys.length) * (by_ + 1) ≤ 140737488355328)
    (hq : ∀ a' H', RowOf f H0.length H' a' (xs.take m ++ ys) → H0 <+: H' → Q (a', H')) : @bindP _ (appendM P H t u (.mr j 0 m 1 false) (.sl (ys.map f))) ⟨Q⟩ := by
  rw [appendM_mr hH hm hx hzl h0 hle, bindP_some]
  refine hq _ _ (.inr ⟨H.length, pre_len hp, ?_, ?_, by simp; omega⟩) (pre_set hp hj _ _)
  · congr 1
    simp; omega
  · rw [get_end]
theorem bind_freeze [hf : Cell1 f] {H0 : Heap} {Q : AV × Heap → Prop} (hr : RowOf f H0.length H a xs) (hp : H0 <+: H) (hq : ∀ H', H0 <+: H' → Q (.sl (xs.map f), H')) : @bindP _ (freezeA H a) ⟨Q⟩ := by
  rcases hr with ⟨rfl, rfl⟩ | ⟨j, hj, rfl, hH, hx⟩
  · rw [freeze_nil, bindP_some]; exact hq _ hp
  · rw [freeze_mr hH hx (by omega), bindP_some, List.drop_zero, List.take_length]
    exact hq _ (pre_set1 hp hj _)
end
@[go_sem] theorem slice_mr {t el : TypeId} {j off len n : Nat} {g : Bool} [ht : UndIs P t (.slice el)] [hs : SizeIs P el n] {lo hi : Option AV} :
    sliceA P t (.mr j off len n g) lo hi none = (bound len hi len).bind fun h => (bound h lo 0).bind fun l => some (if l < h ∨ l = 0 then .mr j (off + l * n) (h - l) n g else .sl []) := by
  unfold sliceA
  rw [ht.h]
  simp only [hs.h, if_true]
@[go_sem] theorem slice_nilA {t el : TypeId} {n : Nat} [ht : UndIs P t (.slice el)] [hs : SizeIs P el n] {lo hi : Option AV} :
    sliceA P t nilA lo hi none = (bound 0 hi 0).bind fun h => (bound h lo 0).bind fun _ => some nilA := by
  unfold sliceA nilA
  rw [ht.h]
  simp only [hs.h, Option.bind_some]
  rfl
theorem append_lit {α : Type} {f : α → AV} {n : Nat} [hf : CellsN f n] {x : α} {ys : List α} {el el' : TypeId} [h : SizeIs P el n] :
    appendD P (some (.slice el)) (some (.slice el')) (.sl [f x]) (.sl (ys.map f)) = roomD n (sizeT P el) (bytesT P el) (zeroA P el) (1 + ys.length) (.sl ((x :: ys).map f)) := by
  have := append_map (P := P) (f := f) (xs := [x]) (ys := ys) (el := el) (el' := el')
  simpa using this
@[go_sem] theorem append_int1 {x : Int} {ys : List Int} {el el' : TypeId} [h : SizeIs P el 1] :
    appendD P (some (.slice el)) (some (.slice el')) (.sl [.v (.int .i64 x)]) (.sl (ys.map fun n => AV.v (.int .i64 n))) = roomD 1 (sizeT P el) (bytesT P el) (zeroA P el) (1 + ys.length) (.sl ((x :: ys).map fun n => AV.v (.int .i64 n))) :=
  append_lit (f := fun n : Int => AV.v (.int .i64 n))
@[go_sem] theorem append_int0 {x : Int} {el el' : TypeId} [h : SizeIs P el 1] :
    appendD P (some (.slice el)) (some (.slice el')) (.sl [.v (.int .i64 x)]) (.sl []) = roomD 1 (sizeT P el) (bytesT P el) (zeroA P el) 1 (.sl ([x].map fun n => AV.v (.int .i64 n))) := by
  have := append_lit (P := P) (f := fun n : Int => AV.v (.int .i64 n)) (x := x) (ys := []) (el := el) (el' := el')
  simpa using this
end
end Go.Lv
