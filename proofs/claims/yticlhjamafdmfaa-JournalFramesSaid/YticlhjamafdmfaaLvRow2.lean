import Derived.Test.YticlhjamafdmfaaLvRow
set_option linter.unusedVariables false
set_option linter.unusedSimpArgs false
/-! Rows that are made, read and written, in steps. -/
namespace Go.Lv
section
variable {P : Program} {H : Heap} {α : Type} {f : α → AV}

theorem make_row [hf : Cell1 f] {t el : TypeId} {by_ : Nat} {z0 : α} [ht : UndIs P t (.slice el)] [hs : SizeIs P el 1] [hb : BytesIs P el by_] [ha : AggIs P el false] {l c : Int}
    (hz : zeroA P el = some [f z0]) (h0 : 0 ≤ l) (h1 : l ≤ c) (h2 : 0 < c) (h3 : c * (by_ + 1) ≤ 140737488355328) :
    makeA P H t (.v (.int .i64 l)) (.v (.int .i64 c)) = some (.mr H.length 0 l.toNat 1 false, H ++ [(List.replicate c.toNat z0).map f]) := by
  have e : elemOfT P t = some el := by unfold elemOfT; rw [ht.h]
  have h4 : c.toNat * (by_ + 1) ≤ 140737488355328 := by
    have : ((c.toNat * (by_ + 1) : Nat) : Int) = c * (by_ + 1) := by push_cast; rw [Int.toNat_of_nonneg (by omega)]
    omega
  unfold makeA
  simp only [e, hs.h, hb.h, hz, ha.h]
  rw [if_pos ⟨h0, h1, h2, h4, by omega, rfl⟩]
  congr 3
  congr 1
  apply List.ext_getElem?
  intro i
  simp only [Nat.mul_one, Nat.mod_one, List.map_replicate]
  rw [List.getElem?_map, List.getElem?_replicate]
  by_cases h : i < c.toNat
  · rw [List.getElem?_range h, if_pos h]; rfl
  · rw [if_neg h, List.getElem?_eq_none (by simp; omega)]; rfl

theorem load_row [hf : Cell1 f] {t : TypeId} [ha : AggIs P t false] {xs : List α} {j off : Nat} {x : α} (hj : H[j]? = some (xs.map f)) (hx : xs[off]? = some x) : loadA P H t (.ptr j off) = some (f x) := by
  unfold loadA
  simp only [hj, Option.bind_some]
  rw [if_pos (plainRow_one (all_cell1 xs))]
  unfold partA
  simp only [ha.h]
  rw [List.getElem?_map, hx]; rfl

theorem store_row [hf : Cell1 f] {t : TypeId} [hs : SizeIs P t 1] {xs : List α} {j off : Nat} {x : α} (hj : H[j]? = some (xs.map f)) (hx : off < xs.length) : storeA P H t (.ptr j off) (f x) = some (H.set j ((xs.set off x).map f)) := by
  unfold storeA
  simp only [hs.h, hj, Option.bind_some]
  rw [if_pos]
  · congr 2
    rw [hf.c, List.set_eq_take_append_cons_drop, if_pos hx]
    simp [List.map_take, List.map_drop]
  · refine ⟨by rw [hf.c]; rfl, by rw [hf.c]; simp [hf.o], by rw [List.length_map]; exact hx, by omega, plainRow_one (all_cell1 xs)⟩
theorem plainD_map [hf : Cell1 f] {xs : List α} {x : Option AV} : plainD (xs.map f) x = x := plainD_of (plainRow_one (all_cell1 xs))
theorem partD_map {xs : List α} {s : Option Nat} {n : Nat} : partD (some false) s (xs.map f) n = (xs[n]?).map f := by simp [partD]
theorem get_set {H : Heap} {j : Nat} {cs : List AV} (h : j < H.length) : (H.set j cs)[j]? = some cs := List.getElem?_set_self h
end
end Go.Lv
