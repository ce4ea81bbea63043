/- Loops over maps: a copy, and lengths added up. -/
import Derived.Test.YticlhjamafdmfaaLvDk
import Derived.WalkKit
import Derived.LoopTactic
import Derived.LoopN
import Derived.Carry
import Derived.Test.YticlhjamafdmfaaCfgR2
set_option linter.unusedVariables false
set_option linter.unusedSimpArgs false
namespace Go.Proofs
open Go.Lv
open Go.RowKit (Below)
open Go.ChangeMaps (setBlock)

theorem heap_set_other {w : World} {r k : Nat} {o : Obj} (h : k ≠ r) : (setBlock w r o).heap[k]? = w.heap[k]? := by
  unfold setBlock
  simp only
  rw [Array.getElem?_setIfInBounds_ne (Ne.symm h)]
theorem heap_set_self {w : World} {r : Nat} {o : Obj} (h : r < w.heap.size) : (setBlock w r o).heap[r]? = some o := by
  unfold setBlock
  simp [h]
theorem heap_set_size {w : World} {r : Nat} {o : Obj} : (setBlock w r o).heap.size = w.heap.size := by
  unfold setBlock
  simp
theorem below_set {B : Nat} {w w1 : World} {r : Nat} {o : Obj} (h : Below B w w1) (hr : B ≤ r) : Below B w (setBlock w1 r o) :=
  ⟨h.os, h.tape, h.output, by rw [heap_set_size]; exact h.size, fun k hk => by rw [heap_set_other (by omega)]; exact h.block k hk⟩
theorem below_drew {B : Nat} {w w1 w2 : World} (h : Below B w w1) (h2 : w2 = w1 ∨ w2 = w1.drew) : Below B w w2 := by
  rcases h2 with rfl | rfl
  · exact h
  · exact ⟨h.os, h.tape, h.output, h.size, h.block⟩
theorem heap_drew {w1 w2 : World} (h2 : w2 = w1 ∨ w2 = w1.drew) : w2.heap = w1.heap := by
  rcases h2 with rfl | rfl <;> rfl

set_option maxRecDepth 1000000 in
theorem used_run : SumsMap Try.prog 37 := by
  intro w B B' arr t es clk hB harr hB' hst hsl hle
  have hl0 : 1 < arr.size := (Array.getElem?_eq_some_iff.1 harr).1
  have hc1 : w.cell? ⟨B, 1, none⟩ = some (.map (some B')) := by unfold World.cell?; simp [hB, harr]
  have hlt : B' < w.heap.size := (Array.getElem?_eq_some_iff.1 hB').1
  have hrg := run_range_map (P := Try.prog) w 86 9 22 B' es clk Try.underlying86 hB'
  go_enter Try.func37, Try.ntmps37
  go_wp2
  go_loopw [3] (fun s wr => ∃ (seen : Array Nat) (done : List MapEntry), wr.heap[B']? = some (.map es clk) ∧ wr.heap[w.heap.size]? = some (.mapIter (some B') clk seen clk) ∧ Below w.heap.size w wr ∧ (done ++ (leftOf es seen).toList).Perm es.toList ∧ s = .int .i64 (done.map fun e => lenV e.val).sum) (fun _ wr => (leftOf es (wr.iterSeen w.heap.size)).size)
  case atStart =>
    exact ⟨#[], [], by rw [heap_alloc_old _ _ hlt]; exact hB', heap_alloc_new _ _, (Below.refl _ _).alloc (Nat.le_refl _) _, by rw [left_none]; exact List.Perm.refl _, rfl⟩
  case round =>
    obtain ⟨seen, done, hb1, hi1, hbl, hpm, rfl⟩ := hrel
    have law := run_next_at (P := Try.prog) wr 0 w.heap.size B' clk clk seen es clk hi1 hb1 hst.1 (Nat.le_refl _)
    rcases law with ⟨h0, hrun⟩ | ⟨e, he, w2, hal2, hrun⟩
    · have hnx : ∀ ty, (Instr.next (.pointer (some ⟨w.heap.size, 0, none⟩)) false ty).run Try.prog wr = _ := fun _ => hrun
      go_wp2
      go_ret
      have hl : (leftOf es seen).toList = [] := List.eq_nil_of_length_eq_zero (by rw [Array.length_toList]; exact h0)
      rw [hl, List.append_nil] at hpm
      rw [sum_perm (hpm.map _)]
      exact ⟨rfl, hbl⟩
    · have hmem := mem_left he
      have hsv := hsl e hmem.1
      obtain ⟨ad, n, cp, hval⟩ : ∃ ad n cp, e.val = .slice ad n cp := by
        generalize e.val = v at hsv
        cases v <;> first | exact ⟨_, _, _, rfl⟩ | cases hsv
      have hp2 := left_perm hst.2.1 he
      have hnn : ∀ l : List MapEntry, 0 ≤ (l.map fun e => lenV e.val).sum := by
        intro l
        induction l with
        | nil => simp
        | cons x l ih =>
          rw [List.map_cons, List.sum_cons]
          have : 0 ≤ lenV x.val := by cases x.val <;> simp [lenV]
          omega
      have hpm' : ((done ++ [e]) ++ (leftOf es (seen.push e.born)).toList).Perm es.toList := by
        rw [List.append_assoc]
        exact ((List.perm_append_left_iff done).2 hp2.symm).trans hpm
      have htot := sum_perm (hpm'.map fun e => lenV e.val)
      rw [List.map_append, List.map_append, List.sum_append, List.sum_append] at htot
      have h1 := hnn done
      have h2 := hnn (leftOf es (seen.push e.born)).toList
      have h3 : ([e].map fun e => lenV e.val).sum = n := by simp [hval, lenV]
      rw [h3] at htot
      rw [hval] at hrun
      have hnx : ∀ ty, (Instr.next (.pointer (some ⟨w.heap.size, 0, none⟩)) false ty).run Try.prog wr = _ := fun _ => hrun
      have hw2 := heap_drew hal2
      have hil : w.heap.size < w2.heap.size := by rw [hw2]; exact (Array.getElem?_eq_some_iff.1 hi1).1
      have hi2 : (setBlock w2 w.heap.size (.mapIter (some B') clk (seen.push e.born) clk)).heap[w.heap.size]? = some (.mapIter (some B') clk (seen.push e.born) clk) := heap_set_self hil
      have hb2 : (setBlock w2 w.heap.size (.mapIter (some B') clk (seen.push e.born) clk)).heap[B']? = some (.map es clk) := by
        rw [heap_set_other (by omega), hw2]; exact hb1
      have hen := run_entry_at (P := Try.prog) _ w.heap.size B' clk seen es clk e hi2 hb2 hmem.1 hst.2.1
      rw [hval] at hen
      go_wp2
      go_roundw
      case rel =>
        refine ⟨seen.push e.born, done ++ [e], hb2, hi2, below_set (below_drew hbl hal2) (Nat.le_refl _), hpm', ?_⟩
        rw [List.map_append, List.sum_append, h3]
      case measure =>
        have m1 : wr.iterSeen w.heap.size = seen := by unfold World.iterSeen; rw [hi1]
        have m2 : (setBlock w2 w.heap.size (.mapIter (some B') clk (seen.push e.born) clk)).iterSeen w.heap.size = seen.push e.born := by unfold World.iterSeen; rw [hi2]
        rw [m1, m2]
        exact left_shrinks es seen e he

set_option maxRecDepth 1000000 in
theorem copied_run : CopiesMap Try.prog 63 := by
  intro w B es clk hB hst hks
  have hlt : B < w.heap.size := (Array.getElem?_eq_some_iff.1 hB).1
  have hmm : ∀ (t : TypeId) (w : World), (Instr.makeMap t none).run Try.prog w = .ok (.map (some w.heap.size)) (w.alloc (.map #[] 0)) := fun _ _ => rfl
  have e1 : (w.alloc (.map #[] 0)).heap.size = w.heap.size + 1 := by simp
  have hB1 : (w.alloc (.map #[] 0)).heap[B]? = some (.map es clk) := by rw [heap_alloc_old _ _ hlt]; exact hB
  have hrg := run_range_map (P := Try.prog) (w.alloc (.map #[] 0)) 86 9 22 B es clk Try.underlying86 hB1
  rw [e1] at hrg
  go_enter Try.func63, Try.ntmps63
  go_wp2
  go_loopw [] (fun wr => ∃ (seen : Array Nat) (done : List MapEntry) (os : List MapEntry) (oclk : Nat), wr.heap[B]? = some (.map es clk) ∧ wr.heap[w.heap.size + 1]? = some (.mapIter (some B) clk seen clk) ∧ wr.heap[w.heap.size]? = some (.map os.toArray oclk) ∧
      MapKept.Stamped os.toArray oclk ∧ Below w.heap.size w wr ∧ (done ++ (leftOf es seen).toList).Perm es.toList ∧ os.map kvOf = done.map kvOf) (fun wr => (leftOf es (wr.iterSeen (w.heap.size + 1))).size)
  case atStart =>
    refine ⟨#[], [], [], 0, ?_, ?_, ?_, MapKept.stamped_empty 0, ((Below.refl _ _).alloc (Nat.le_refl _) _).alloc (by simp) _, by rw [left_none]; exact List.Perm.refl _, rfl⟩
    · rw [heap_alloc_old _ _ (by rw [e1]; omega)]; exact hB1
    · rw [← e1]; exact heap_alloc_new _ _
    · rw [heap_alloc_old _ _ (by rw [e1]; omega)]; exact heap_alloc_new _ _
  case round =>
    obtain ⟨seen, done, os, oclk, hb1, hi1, ho1, hso, hbl, hpm, hos⟩ := hrel
    have law := run_next_at (P := Try.prog) wr 0 (w.heap.size + 1) B clk clk seen es clk hi1 hb1 hst.1 (Nat.le_refl _)
    rcases law with ⟨h0, hrun⟩ | ⟨e, he, w2, hal2, hrun⟩
    · have hnx : ∀ ty, (Instr.next (.pointer (some ⟨w.heap.size + 1, 0, none⟩)) false ty).run Try.prog wr = _ := fun _ => hrun
      go_wp2
      go_ret
      have hl : (leftOf es seen).toList = [] := List.eq_nil_of_length_eq_zero (by rw [Array.length_toList]; exact h0)
      rw [hl, List.append_nil] at hpm
      refine ⟨rfl, os.toArray, oclk, ho1, hso, ?_, hbl⟩
      simp only
      rw [hos]
      exact (hpm.map kvOf).symm
    · have hmem := mem_left he
      have hp2 := left_perm hst.2.1 he
      have hpm' : ((done ++ [e]) ++ (leftOf es (seen.push e.born)).toList).Perm es.toList := by
        rw [List.append_assoc]
        exact ((List.perm_append_left_iff done).2 hp2.symm).trans hpm
      have hnx : ∀ ty, (Instr.next (.pointer (some ⟨w.heap.size + 1, 0, none⟩)) false ty).run Try.prog wr = _ := fun _ => hrun
      have hw2 := heap_drew hal2
      have hil : w.heap.size + 1 < w2.heap.size := by rw [hw2]; exact (Array.getElem?_eq_some_iff.1 hi1).1
      obtain ⟨w3, hw3⟩ : ∃ w3, w3 = setBlock w2 (w.heap.size + 1) (.mapIter (some B) clk (seen.push e.born) clk) := ⟨_, rfl⟩
      have hi2 : w3.heap[w.heap.size + 1]? = some (.mapIter (some B) clk (seen.push e.born) clk) := by rw [hw3]; exact heap_set_self hil
      have hb2 : w3.heap[B]? = some (.map es clk) := by rw [hw3, heap_set_other (by omega), hw2]; exact hb1
      have ho2 : w3.heap[w.heap.size]? = some (.map os.toArray oclk) := by rw [hw3, heap_set_other (by omega), hw2]; exact ho1
      have hbl3 : Below w.heap.size w w3 := by rw [hw3]; exact below_set (below_drew hbl hal2) (by omega)
      rw [← hw3] at hnx
      have hen := run_entry_at (P := Try.prog) _ (w.heap.size + 1) B clk seen es clk e hi2 hb2 hmem.1 hst.2.1
      have hkey := hks e hmem.1
      -- the key is new
      have hkn : ∀ x ∈ os, x.key ≠ e.key := by
        intro x hx hxe
        have h1 : kvOf x ∈ done.map kvOf := by rw [← hos]; exact List.mem_map_of_mem hx
        obtain ⟨y, hy, hyx⟩ := List.mem_map.1 h1
        have hyk : y.key = e.key := by have := congrArg Prod.fst hyx; exact this.trans hxe
        have hnd : (((done ++ [e]) ++ (leftOf es (seen.push e.born)).toList).map (·.key)).Nodup := ((hpm'.map (·.key)).nodup_iff).2 hst.2.2
        rw [List.map_append, List.map_append] at hnd
        have := (List.nodup_append.1 (List.nodup_append.1 hnd).1).2.2 y.key (List.mem_map_of_mem hy) e.key (by simp)
        exact this hyk
      have hok : ∀ x ∈ os, MapKept.IsKey .string x.key := by
        intro x hx
        have h1 : kvOf x ∈ done.map kvOf := by rw [← hos]; exact List.mem_map_of_mem hx
        obtain ⟨y, hy, hyx⟩ := List.mem_map.1 h1
        have hyk : y.key = x.key := congrArg Prod.fst hyx
        rw [← hyk]
        exact hks y (hpm.mem_iff.1 (List.mem_append_left _ hy))
      have hf : (Instr.findKey 9 e.key os).run Try.prog w3 = .ok none w3 := MapKept.run_findKey Try.underlying9 (find_fresh rfl hkey hok hkn)
      have hgo := MapKept.run_getObj_map (P := Try.prog) (es := os.toArray) (clock := oclk) ho2
      have hset := MapKept.run_setObj_map (P := Try.prog) (.map (os ++ [({ key := e.key, val := e.val, born := oclk } : MapEntry)]).toArray (oclk + 1)) ho2
      have hpush : os.toArray.push { key := e.key, val := e.val, born := oclk } = (os ++ [({ key := e.key, val := e.val, born := oclk } : MapEntry)]).toArray := by simp
      obtain ⟨w4, hw4⟩ : ∃ w4, w4 = setBlock w3 w.heap.size (.map (os ++ [({ key := e.key, val := e.val, born := oclk } : MapEntry)]).toArray (oclk + 1)) := ⟨_, rfl⟩
      have hmu : (Instr.mapUpdate 86 (.map (some w.heap.size)) e.key e.val).run Try.prog w3 = .ok () w4 := by
        simp only [Instr.mapUpdate, Sem.run_bind, run_underlying Try.underlying86, Result.andThen_ok, hgo, MapKept.run_checkKey Try.underlying9 hkey, hf, hpush]
        rw [hw4]
        exact hset
      have hl3 : w.heap.size < w3.heap.size := (Array.getElem?_eq_some_iff.1 ho2).1
      have hb4 : w4.heap[B]? = some (.map es clk) := by rw [hw4, heap_set_other (by omega)]; exact hb2
      have hi4 : w4.heap[w.heap.size + 1]? = some (.mapIter (some B) clk (seen.push e.born) clk) := by rw [hw4, heap_set_other (by omega)]; exact hi2
      have ho4 : w4.heap[w.heap.size]? = some (.map (os ++ [({ key := e.key, val := e.val, born := oclk } : MapEntry)]).toArray (oclk + 1)) := by rw [hw4]; exact heap_set_self hl3
      have hbl4 : Below w.heap.size w w4 := by rw [hw4]; exact below_set hbl3 (Nat.le_refl _)
      have hst4 : MapKept.Stamped (os ++ [({ key := e.key, val := e.val, born := oclk } : MapEntry)]).toArray (oclk + 1) := by
        have := MapKept.stamped_push hso (key := e.key) (val := e.val) (by simpa using hkn)
        simpa using this
      clear hrun hw3 hw4 hset hf hgo hpush
      go_wp2
      go_roundw
      case rel =>
        refine ⟨seen.push e.born, done ++ [e], os ++ [({ key := e.key, val := e.val, born := oclk } : MapEntry)], oclk + 1, hb4, hi4, ho4, hst4, hbl4, hpm', ?_⟩
        rw [List.map_append, List.map_append, hos]; rfl
      case measure =>
        have m1 : wr.iterSeen (w.heap.size + 1) = seen := by unfold World.iterSeen; rw [hi1]
        have m2 : w4.iterSeen (w.heap.size + 1) = seen.push e.born := by unfold World.iterSeen; rw [hi4]
        rw [m1, m2]
        exact left_shrinks es seen e he
end Go.Proofs
