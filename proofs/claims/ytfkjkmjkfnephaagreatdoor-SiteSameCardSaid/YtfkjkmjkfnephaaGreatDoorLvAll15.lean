/- A value semantics of the loaded code, its soundness, and walks through functions over it. -/
import Derived.Test.YtfkjkmjkfnephaaGreatDoorLvAll9
import Derived.Shelf.Spec.SlicesGrow
set_option linter.unusedVariables false
set_option linter.unusedSimpArgs false
namespace Go.Lv
open Go.Proofs Go.Shelf
open Go.RowKit (Below)
section
variable {P : Program} {F : Facts} {L : List Nat} {w : World} {H : Heap}
def growT (by_ : Nat) (H : Heap) : List AV → Option (AV × Heap)
 | [.v (.slice none 0 0), .v (.int .i64 n)] => if 0 ≤ n ∧ n.toNat * by_ ≤ 140737488355328 ∧ n ≤ 4611686018427387904 then some (.sl [], H) else none
 | _ => none
theorem growT_ok {ρ : Shelf.Ren} {n by_ : Nat} {z : Value} (hL : Lays8.n4 P ρ) (hn : 0 < n) (hi : (P.info? (ρ.t 25)).map (fun i => (i.zero, i.size, i.bytes)) = some (some z, n, by_)) (hzs : z.cells.size = n)
  {args : List AV} {r : AV} {H' : Heap} (h : growT by_ H args = some (r, H')) : CallOK P (cloneSig n) (ρ.f 4) args H r H' := by
 intro F L w vs hS hvl hrel hown hglob
 obtain ⟨i0, hi, hz⟩ := xoM.1 hi
 injection hz with hz0 hz; injection hz with hz1 hz2
 unfold growT at h
 split at h
 ·rename_i m
  split at h
  ·rename_i hc
   obtain ⟨c1, c2, c3⟩ := hc
   injection h with h; injection h with h3 h4; subst h3 h4
   match vs, hvl with
   | [va, vb], _ =>
    have ra : Rel F L (.v (.slice none 0 0)) va := hrel 0 _ rfl
    have rb : Rel F L (.v (.int .i64 m)) vb := hrel 1 _ rfl
    obtain ⟨e, _⟩ := ra.v_eq
    subst e
    obtain ⟨e, _⟩ := rb.v_eq
    subst e
    obtain ⟨k, rfl⟩ : ∃ k : Nat, m = k := ⟨m.toNat, by omega⟩
    rw [Int.toNat_natCast] at c2
    by_cases h0 : k = 0
    ·subst h0
     refine (Any8.slices_Grow_room hL none 0 0 0 w (by omega) (by omega) (by omega) (by omega)).mono ?_
     rintro e w' ⟨rfl, rfl⟩
     refine ⟨_, F, L, rfl, .sl0 none 0 (fun _ => rfl), hS, (Goes.refl _ F L w').weaken (fun _ _ h => h), ?_, fun p hp q hq hne => by simp [cloneSig] at hp hq; subst hp hq; exact absurd rfl hne⟩
     intro p hp
     simp [cloneSig] at hp; subst hp
     exact ⟨by intro a len cap h; simp [compOf] at h, by intro B h; simp [compOf, Value.ownBlock] at h⟩
    ·refine (Any8.slices_Grow_grow hL i0 z hi hz0 (by omega) none 0 0 k [] w (by omega) (by omega) (by rw [hz2, Nat.zero_add]; exact c2) (by omega) (by simp) (fun _ => rfl) (by simp)).mono ?_
     rintro e w' ⟨rfl, hw⟩
     rw [Nat.zero_add] at hw ⊢
     obtain ⟨G, hG⟩ : ∃ G, G = grownCap w k 0 (ρ.t 25) := ⟨_, rfl⟩
     have hGn : k ≤ G := hG ▸ grownCap_ge w _ _ _
     rw [← hG] at hw ⊢
     have hb : Below w.heap.size w w' := by
      rw [hw]
      exact (Below.refl w.heap.size w).drew.alloc (Nat.le_refl _) _
     obtain ⟨hS1, hg1⟩ := hS.below hb
     refine ⟨_, F, L, rfl, .sl0 _ _ (by simp), hS1, hg1.weaken (fun _ _ h => h.elim), ?_, fun p hp q hq hne => by simp [cloneSig] at hp hq; subst hp hq; exact absurd rfl hne⟩
     intro p hp
     simp [cloneSig] at hp; subst hp
     obtain ⟨arr, harr⟩ : ∃ arr : List Value, arr = (#[] ++ Builtin.zeroCells z.cells (k - 0) ++ Builtin.zeroCells z.cells (G - k)).toList := ⟨_, rfl⟩
     have hnew : w'.heap[w.heap.size]? = some (.cells arr.toArray (ρ.t 25) (0, 0)) := by
      rw [hw, harr]
      have := _root_.Go.heap_alloc_new w.drew (.cells ((#[] : Array Value) ++ Builtin.zeroCells z.cells (k - 0) ++ Builtin.zeroCells z.cells (G - k)) (ρ.t 25))
      rw [Array.toArray_toList]
      exact this
     have hal : arr.length = G * n := by
      rw [harr, Array.length_toList, Array.size_append, Array.size_append, size_zeroCells, size_zeroCells, hzs]
      simp only [Array.size_empty, Nat.zero_add, Nat.sub_zero]
      rw [← Nat.add_mul]; congr 1; omega
     refine ⟨?_, fun B hB => .inr ?_⟩
     ·intro a len cap' he
      simp only [compOf] at he
      injection he with e1 e2 e3
      injection e1 with e1
      subst e1 e2 e3
      have hgL : w.heap.size ∉ L := fun h => by have := hS.lt _ h; omega
      refine ⟨rfl, by omega, fun h => h.elim, hgL, ?_, fun i hi => ?_, fun i hi => ⟨?_, ?_⟩, _, _, hnew⟩
      ·exact (Array.getElem?_eq_some_iff.1 hnew).1
      ·cases hF : F.get w.heap.size i with
       | none => rfl
       | some v => have := hS.ltF hF; omega
      ·rw [cell?_eq hnew, xgE]; rfl
       rw [hal]
       have hi' : i < (G - 0) * n := hi
       show 0 + 0 * n + i < G * n
       rw [Nat.sub_zero] at hi'; omega
      ·unfold World.frozen?; rw [hnew]; simp
     ·simp [compOf, Value.ownBlock] at hB
      omega
   | [], h => simp at h
   | [_], h => simp at h
   | _ :: _ :: _ :: _, h => simp at h
  ·cases h
 ·cases h
end
end Go.Lv
