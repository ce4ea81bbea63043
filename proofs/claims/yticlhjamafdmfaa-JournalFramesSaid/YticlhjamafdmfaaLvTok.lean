import Derived.Test.YticlhjamafdmfaaLvRow2
set_option linter.unusedVariables false
set_option linter.unusedSimpArgs false
/-! Slices whose spare room is their own, in steps. -/
namespace Go.Lv
section
variable {P : Program} {H : Heap} {α : Type} {f : α → AV} {k n : Nat} {a : AV} {xs : List α}

/-- A slice that grows at its own end: its mark is held in memory from n on. -/
def TokOf (f : α → AV) (k n : Nat) (H : Heap) (a : AV) (xs : List α) : Prop :=
  (a = nilA ∧ xs = []) ∨ ∃ j, n ≤ j ∧ a = .ow (xs.map f) j ∧ H[j]? = some [.tk (xs.length * k)] ∧ 0 < xs.length
theorem TokOf.nil : TokOf f k n H nilA [] := .inl ⟨rfl, rfl⟩
theorem TokOf.plain (h : TokOf f k n H a xs) : plainA a = .sl (xs.map f) := by
  rcases h with ⟨rfl, rfl⟩ | ⟨j, _, rfl, _, _⟩ <;> rfl
theorem TokOf.len (h : TokOf f k n H a xs) {el : TypeId} : lenD (some (.slice el)) (owA a) = some (.v (.int .i64 xs.length)) := by
  rcases h with ⟨rfl, rfl⟩ | ⟨j, _, rfl, _, _⟩
  · rfl
  · simp [owA, lenD]
theorem TokOf.view (h : TokOf f k n H a xs) {t : TypeId} : viewR P H t a = .sl (xs.map f) := by
  rcases h with ⟨rfl, rfl⟩ | ⟨j, _, rfl, _, _⟩ <;> rfl
theorem TokOf.one (h : TokOf f k n H a xs) : a.cells = [a] ∧ a.one = true := by
  rcases h with ⟨rfl, rfl⟩ | ⟨j, _, rfl, _, _⟩ <;> exact ⟨rfl, rfl⟩
/-- Memory that only grew, or in which other places were written. -/
theorem TokOf.pre {H' : Heap} (h : TokOf f k n H a xs) (hp : H <+: H') : TokOf f k n H' a xs := by
  rcases h with h | ⟨j, hj, rfl, hH, hx⟩
  · exact .inl h
  · refine .inr ⟨j, hj, rfl, ?_, hx⟩
    obtain ⟨G, rfl⟩ := hp
    rw [List.getElem?_append_left (List.getElem?_eq_some_iff.1 hH).1]; exact hH

theorem bind_appendT [hf : CellsN f k] {H0 : Heap} {t u el el' : TypeId} {by_ : Nat} {z : List AV} [ht : UndIs P t (.slice el)] [hu : UndIs P u (.slice el')] [hs : SizeIs P el k] [hb : BytesIs P el by_] [hz : ZeroIs P el z]
    {ys : List α} {Q : AV × Heap → Prop} (hr : TokOf f k H0.length H a xs) (hp : H0 <+: H) (hk : (0 : Int) < k) (hzl : (z.length : Int) = k) (h0 : 0 < ys.length) (hle : ((xs.length : Int) + ys.length) * (by_ + 1) ≤ 140737488355328)
    (hq : ∀ a' H', TokOf f k H0.length H' a' (xs ++ ys) → H0 <+: H' → Q (a', H')) : @bindP _ (appendT P H t u a (.sl (ys.map f))) ⟨Q⟩ := by
  have hle' : (xs.length + ys.length) * (by_ + 1) ≤ 140737488355328 := by
    have : (((xs.length + ys.length) * (by_ + 1) : Nat) : Int) = ((xs.length : Int) + ys.length) * (by_ + 1) := by push_cast; rfl
    omega
  have c1 : 0 < k ∧ z.length = k ∧ (∀ a ∈ ys.map f, a.cells.length = k) ∧ 0 < (ys.map f).length := ⟨by omega, by omega, map_cells ys, by simpa using h0⟩
  rcases hr with ⟨rfl, rfl⟩ | ⟨j, hj, rfl, hH, hx⟩
  · have e : appendT P H t u nilA (.sl (ys.map f)) = some (.ow (ys.map f) H.length, H ++ [[.tk (ys.length * k)]]) := by
      unfold appendT nilA
      rw [ht.h, hu.h]
      simp only [hs.h, hb.h, hz.h]
      rw [if_pos c1, if_pos ⟨rfl, by simpa using hle'⟩, List.length_map]
    rw [e, bindP_some]
    refine hq _ _ (.inr ⟨H.length, pre_len hp, by simp, ?_, by simpa using h0⟩) (pre_add hp _)
    rw [List.getElem?_append_right (Nat.le_refl _)]; simp
  · have e : appendT P H t u (.ow (xs.map f) j) (.sl (ys.map f)) = some (.ow ((xs ++ ys).map f) H.length, H.set j [] ++ [[.tk ((xs ++ ys).length * k)]]) := by
      unfold appendT
      rw [ht.h, hu.h]
      simp only [hs.h, hb.h, hz.h]
      rw [if_pos c1, if_pos ⟨by rw [hH]; simp [tkRow], by simpa using hle', map_cells xs, by simpa using hx⟩]
      simp
    rw [e, bindP_some]
    refine hq _ _ (.inr ⟨H.length, pre_len hp, rfl, ?_, by simp; omega⟩) (pre_set hp hj _ _)
    rw [get_end]
end
end Go.Lv
