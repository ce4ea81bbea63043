/- Loops over maps: a copy, and lengths added up. -/
import Derived.Test.YtbfcbjmoijiffaaGreatLvAll10
import Derived.Test.YtbfcbjmoijiffaaGreatLvAll11
import Derived.Test.YtbfcbjmoijiffaaGreatLvAll12
import Derived.OwnWalk
import Derived.Maps.AppendAt
import Derived.Sort.OwnSorted
import Derived.WalkKit
import Derived.LoopTactic
import Derived.LoopN
import Derived.Carry
import Derived.Test.YtbfcbjmoijiffaaGreatCfgR10Z
import Derived.Test.YtbfcbjmoijiffaaGreatJrAllbx0
import Derived.Test.YtbfcbjmoijiffaaGreatJrAllax0
import Derived.Test.YtbfcbjmoijiffaaGreatLvAll13
set_option linter.unusedVariables false
set_option linter.unusedSimpArgs false
namespace Go.Proofs
open Go.Lv
open Go.RowKit (Below)
open Go.ChangeMaps (setBlock)

theorem heap_set_other {w : World} {r k : Nat} {o : Obj} (h : k ≠ r) : (setBlock w r o).heap[k]? = w.heap[k]? := by
  unfold setBlock
  simp only
  rw [Array.getElem?_setIfInBounds_ne (Ne.symm h)]
theorem heap_set_self {w : World} {r : Nat} {o : Obj} (h : r < w.heap.size) : (setBlock w r o).heap[r]? = some o := by
  unfold setBlock
  simp [h]
theorem heap_set_size {w : World} {r : Nat} {o : Obj} : (setBlock w r o).heap.size = w.heap.size := by
  unfold setBlock
  simp
theorem below_set {B : Nat} {w w1 : World} {r : Nat} {o : Obj} (h : Below B w w1) (hr : B ≤ r) : Below B w (setBlock w1 r o) :=
  ⟨h.os, h.tape, h.output, by rw [heap_set_size]; exact h.size, fun k hk => by rw [heap_set_other (by omega)]; exact h.block k hk⟩
theorem below_drew {B : Nat} {w w1 w2 : World} (h : Below B w w1) (h2 : w2 = w1 ∨ w2 = w1.drew) : Below B w w2 := by
  rcases h2 with rfl | rfl
  · exact h
  · exact ⟨h.os, h.tape, h.output, h.size, h.block⟩
theorem heap_drew {w1 w2 : World} (h2 : w2 = w1 ∨ w2 = w1.drew) : w2.heap = w1.heap := by
  rcases h2 with rfl | rfl <;> rfl

set_option maxRecDepth 1000000 in
theorem used_run : SumsMap Tryz.prog 58 := by
  intro w B B' arr t fr es clk hB harr hB' hst hsl hle
  have hl0 : 1 < arr.size := (Array.getElem?_eq_some_iff.1 harr).1
  have hc1 : w.cell? ⟨B, 1, none⟩ = some (.map (some B')) := by unfold World.cell?; simp [hB, harr]
  have hlt : B' < w.heap.size := (Array.getElem?_eq_some_iff.1 hB').1
  have hrg := run_range_map (P := Tryz.prog) w 62 9 38 B' es clk Tryz.underlying62 hB'
  go_enter Tryz.func58, Tryz.ntmps58
  go_wp2
  go_loopw [3] (fun s wr => ∃ (seen : Array Nat) (done : List MapEntry), wr.heap[B']? = some (.map es clk) ∧ wr.heap[w.heap.size]? = some (.mapIter (some B') clk seen clk) ∧ Below w.heap.size w wr ∧ (done ++ (leftOf es seen).toList).Perm es.toList ∧ s = .int .i64 (done.map fun e => lenV e.val).sum) (fun _ wr => (leftOf es (wr.iterSeen w.heap.size)).size)
  case atStart =>
    exact ⟨#[], [], by rw [heap_alloc_old _ _ hlt]; exact hB', heap_alloc_new _ _, (Below.refl _ _).alloc (Nat.le_refl _) _, by rw [left_none]; exact List.Perm.refl _, rfl⟩
  case round =>
    obtain ⟨seen, done, hb1, hi1, hbl, hpm, rfl⟩ := hrel
    have law := run_next_at (P := Tryz.prog) wr 0 w.heap.size B' clk clk seen es clk hi1 hb1 hst.1 (Nat.le_refl _)
    rcases law with ⟨h0, hrun⟩ | ⟨e, he, w2, hal2, hrun⟩
    · have hnx : ∀ ty, (Instr.next (.pointer (some ⟨w.heap.size, 0, none⟩)) false ty).run Tryz.prog wr = _ := fun _ => hrun
      go_wp2
      go_ret
      have hl : (leftOf es seen).toList = [] := List.eq_nil_of_length_eq_zero (by rw [Array.length_toList]; exact h0)
      rw [hl, List.append_nil] at hpm
      rw [sum_perm (hpm.map _)]
      exact ⟨rfl, hbl⟩
    · have hmem := mem_left he
      have hsv := hsl e hmem.1
      obtain ⟨ad, n, cp, hval⟩ : ∃ ad n cp, e.val = .slice ad n cp := by
        generalize e.val = v at hsv
        cases v <;> first | exact ⟨_, _, _, rfl⟩ | cases hsv
      have hp2 := left_perm hst.2.1 he
      have hnn : ∀ l : List MapEntry, 0 ≤ (l.map fun e => lenV e.val).sum := by
        intro l
        induction l with
        | nil => simp
        | cons x l ih =>
          rw [List.map_cons, List.sum_cons]
          have : 0 ≤ lenV x.val := by cases x.val <;> simp [lenV]
          omega
      have hpm' : ((done ++ [e]) ++ (leftOf es (seen.push e.born)).toList).Perm es.toList := by
        rw [List.append_assoc]
        exact ((List.perm_append_left_iff done).2 hp2.symm).trans hpm
      have htot := sum_perm (hpm'.map fun e => lenV e.val)
      rw [List.map_append, List.map_append, List.sum_append, List.sum_append] at htot
      have h1 := hnn done
      have h2 := hnn (leftOf es (seen.push e.born)).toList
      have h3 : ([e].map fun e => lenV e.val).sum = n := by simp [hval, lenV]
      rw [h3] at htot
      rw [hval] at hrun
      have hnx : ∀ ty, (Instr.next (.pointer (some ⟨w.heap.size, 0, none⟩)) false ty).run Tryz.prog wr = _ := fun _ => hrun
      have hw2 := heap_drew hal2
      have hil : w.heap.size < w2.heap.size := by rw [hw2]; exact (Array.getElem?_eq_some_iff.1 hi1).1
      have hi2 : (setBlock w2 w.heap.size (.mapIter (some B') clk (seen.push e.born) clk)).heap[w.heap.size]? = some (.mapIter (some B') clk (seen.push e.born) clk) := heap_set_self hil
      have hb2 : (setBlock w2 w.heap.size (.mapIter (some B') clk (seen.push e.born) clk)).heap[B']? = some (.map es clk) := by
        rw [heap_set_other (by omega), hw2]; exact hb1
      have hen := run_entry_at (P := Tryz.prog) _ w.heap.size B' clk seen es clk e hi2 hb2 hmem.1 hst.2.1
      rw [hval] at hen
      go_wp2
      go_roundw
      case rel =>
        refine ⟨seen.push e.born, done ++ [e], hb2, hi2, below_set (below_drew hbl hal2) (Nat.le_refl _), hpm', ?_⟩
        rw [List.map_append, List.sum_append, h3]
      case measure =>
        have m1 : wr.iterSeen w.heap.size = seen := by unfold World.iterSeen; rw [hi1]
        have m2 : (setBlock w2 w.heap.size (.mapIter (some B') clk (seen.push e.born) clk)).iterSeen w.heap.size = seen.push e.born := by unfold World.iterSeen; rw [hi2]
        rw [m1, m2]
        exact left_shrinks es seen e he

set_option maxRecDepth 1000000 in
theorem copied_run : CopiesMap Tryz.prog 80 := by
  intro w B es clk hB hst hks
  have hlt : B < w.heap.size := (Array.getElem?_eq_some_iff.1 hB).1
  have hmm : ∀ (t : TypeId) (w : World), (Instr.makeMap t none).run Tryz.prog w = .ok (.map (some w.heap.size)) (w.alloc (.map #[] 0)) := fun _ _ => rfl
  have e1 : (w.alloc (.map #[] 0)).heap.size = w.heap.size + 1 := by simp
  have hB1 : (w.alloc (.map #[] 0)).heap[B]? = some (.map es clk) := by rw [heap_alloc_old _ _ hlt]; exact hB
  have hrg := run_range_map (P := Tryz.prog) (w.alloc (.map #[] 0)) 62 9 38 B es clk Tryz.underlying62 hB1
  rw [e1] at hrg
  go_enter Tryz.func80, Tryz.ntmps80
  go_wp2
  go_loopw [] (fun wr => ∃ (seen : Array Nat) (done : List MapEntry) (os : List MapEntry) (oclk : Nat), wr.heap[B]? = some (.map es clk) ∧ wr.heap[w.heap.size + 1]? = some (.mapIter (some B) clk seen clk) ∧ wr.heap[w.heap.size]? = some (.map os.toArray oclk) ∧
      MapKept.Stamped os.toArray oclk ∧ Below w.heap.size w wr ∧ (done ++ (leftOf es seen).toList).Perm es.toList ∧ os.map kvOf = done.map kvOf) (fun wr => (leftOf es (wr.iterSeen (w.heap.size + 1))).size)
  case atStart =>
    refine ⟨#[], [], [], 0, ?_, ?_, ?_, MapKept.stamped_empty 0, ((Below.refl _ _).alloc (Nat.le_refl _) _).alloc (by simp) _, by rw [left_none]; exact List.Perm.refl _, rfl⟩
    · rw [heap_alloc_old _ _ (by rw [e1]; omega)]; exact hB1
    · rw [← e1]; exact heap_alloc_new _ _
    · rw [heap_alloc_old _ _ (by rw [e1]; omega)]; exact heap_alloc_new _ _
  case round =>
    obtain ⟨seen, done, os, oclk, hb1, hi1, ho1, hso, hbl, hpm, hos⟩ := hrel
    have law := run_next_at (P := Tryz.prog) wr 0 (w.heap.size + 1) B clk clk seen es clk hi1 hb1 hst.1 (Nat.le_refl _)
    rcases law with ⟨h0, hrun⟩ | ⟨e, he, w2, hal2, hrun⟩
    · have hnx : ∀ ty, (Instr.next (.pointer (some ⟨w.heap.size + 1, 0, none⟩)) false ty).run Tryz.prog wr = _ := fun _ => hrun
      go_wp2
      go_ret
      have hl : (leftOf es seen).toList = [] := List.eq_nil_of_length_eq_zero (by rw [Array.length_toList]; exact h0)
      rw [hl, List.append_nil] at hpm
      refine ⟨rfl, os.toArray, oclk, ho1, hso, ?_, hbl⟩
      simp only
      rw [hos]
      exact (hpm.map kvOf).symm
    · have hmem := mem_left he
      have hp2 := left_perm hst.2.1 he
      have hpm' : ((done ++ [e]) ++ (leftOf es (seen.push e.born)).toList).Perm es.toList := by
        rw [List.append_assoc]
        exact ((List.perm_append_left_iff done).2 hp2.symm).trans hpm
      have hnx : ∀ ty, (Instr.next (.pointer (some ⟨w.heap.size + 1, 0, none⟩)) false ty).run Tryz.prog wr = _ := fun _ => hrun
      have hw2 := heap_drew hal2
      have hil : w.heap.size + 1 < w2.heap.size := by rw [hw2]; exact (Array.getElem?_eq_some_iff.1 hi1).1
      obtain ⟨w3, hw3⟩ : ∃ w3, w3 = setBlock w2 (w.heap.size + 1) (.mapIter (some B) clk (seen.push e.born) clk) := ⟨_, rfl⟩
      have hi2 : w3.heap[w.heap.size + 1]? = some (.mapIter (some B) clk (seen.push e.born) clk) := by rw [hw3]; exact heap_set_self hil
      have hb2 : w3.heap[B]? = some (.map es clk) := by rw [hw3, heap_set_other (by omega), hw2]; exact hb1
      have ho2 : w3.heap[w.heap.size]? = some (.map os.toArray oclk) := by rw [hw3, heap_set_other (by omega), hw2]; exact ho1
      have hbl3 : Below w.heap.size w w3 := by rw [hw3]; exact below_set (below_drew hbl hal2) (by omega)
      rw [← hw3] at hnx
      have hen := run_entry_at (P := Tryz.prog) _ (w.heap.size + 1) B clk seen es clk e hi2 hb2 hmem.1 hst.2.1
      have hkey := hks e hmem.1
      -- the key is new
      have hkn : ∀ x ∈ os, x.key ≠ e.key := by
        intro x hx hxe
        have h1 : kvOf x ∈ done.map kvOf := by rw [← hos]; exact List.mem_map_of_mem hx
        obtain ⟨y, hy, hyx⟩ := List.mem_map.1 h1
        have hyk : y.key = e.key := by have := congrArg Prod.fst hyx; exact this.trans hxe
        have hnd : (((done ++ [e]) ++ (leftOf es (seen.push e.born)).toList).map (·.key)).Nodup := ((hpm'.map (·.key)).nodup_iff).2 hst.2.2
        rw [List.map_append, List.map_append] at hnd
        have := (List.nodup_append.1 (List.nodup_append.1 hnd).1).2.2 y.key (List.mem_map_of_mem hy) e.key (by simp)
        exact this hyk
      have hok : ∀ x ∈ os, MapKept.IsKey .string x.key := by
        intro x hx
        have h1 : kvOf x ∈ done.map kvOf := by rw [← hos]; exact List.mem_map_of_mem hx
        obtain ⟨y, hy, hyx⟩ := List.mem_map.1 h1
        have hyk : y.key = x.key := congrArg Prod.fst hyx
        rw [← hyk]
        exact hks y (hpm.mem_iff.1 (List.mem_append_left _ hy))
      have hf : (Instr.findKey 9 e.key os).run Tryz.prog w3 = .ok none w3 := MapKept.run_findKey Tryz.underlying9 (find_fresh rfl hkey hok hkn)
      have hgo := MapKept.run_getObj_map (P := Tryz.prog) (es := os.toArray) (clock := oclk) ho2
      have hset := MapKept.run_setObj_map (P := Tryz.prog) (.map (os ++ [({ key := e.key, val := e.val, born := oclk } : MapEntry)]).toArray (oclk + 1)) ho2
      have hpush : os.toArray.push { key := e.key, val := e.val, born := oclk } = (os ++ [({ key := e.key, val := e.val, born := oclk } : MapEntry)]).toArray := by simp
      obtain ⟨w4, hw4⟩ : ∃ w4, w4 = setBlock w3 w.heap.size (.map (os ++ [({ key := e.key, val := e.val, born := oclk } : MapEntry)]).toArray (oclk + 1)) := ⟨_, rfl⟩
      have hmu : (Instr.mapUpdate 62 (.map (some w.heap.size)) e.key e.val).run Tryz.prog w3 = .ok () w4 := by
        simp only [Instr.mapUpdate, Sem.run_bind, run_underlying Tryz.underlying62, Result.andThen_ok, hgo, MapKept.run_checkKey Tryz.underlying9 hkey, hf, hpush]
        rw [hw4]
        exact hset
      have hl3 : w.heap.size < w3.heap.size := (Array.getElem?_eq_some_iff.1 ho2).1
      have hb4 : w4.heap[B]? = some (.map es clk) := by rw [hw4, heap_set_other (by omega)]; exact hb2
      have hi4 : w4.heap[w.heap.size + 1]? = some (.mapIter (some B) clk (seen.push e.born) clk) := by rw [hw4, heap_set_other (by omega)]; exact hi2
      have ho4 : w4.heap[w.heap.size]? = some (.map (os ++ [({ key := e.key, val := e.val, born := oclk } : MapEntry)]).toArray (oclk + 1)) := by rw [hw4]; exact heap_set_self hl3
      have hbl4 : Below w.heap.size w w4 := by rw [hw4]; exact below_set hbl3 (Nat.le_refl _)
      have hst4 : MapKept.Stamped (os ++ [({ key := e.key, val := e.val, born := oclk } : MapEntry)]).toArray (oclk + 1) := by
        have := MapKept.stamped_push hso (key := e.key) (val := e.val) (by simpa using hkn)
        simpa using this
      clear hrun hw3 hw4 hset hf hgo hpush
      go_wp2
      go_roundw
      case rel =>
        refine ⟨seen.push e.born, done ++ [e], os ++ [({ key := e.key, val := e.val, born := oclk } : MapEntry)], oclk + 1, hb4, hi4, ho4, hst4, hbl4, hpm', ?_⟩
        rw [List.map_append, List.map_append, hos]; rfl
      case measure =>
        have m1 : wr.iterSeen (w.heap.size + 1) = seen := by unfold World.iterSeen; rw [hi1]
        have m2 : w4.iterSeen (w.heap.size + 1) = seen.push e.born := by unfold World.iterSeen; rw [hi4]
        rw [m1, m2]
        exact left_shrinks es seen e he

set_option maxRecDepth 1000000 in
theorem equal_run : EqualsB Tryz.prog 92 38 9 := by
  intro w va vb x y hx hy
  go_enter Tryz.func92, Tryz.ntmps92
  go_wp2
  go_ret
  exact ⟨rfl, rfl⟩
set_option maxRecDepth 1000000 in
theorem bytes_run : EqualsB Tryz.prog 46 38 9 := by
  intro w va vb x y hx hy
  go_enter Tryz.func46, Tryz.ntmps46
  go_wp2
  go_ret
  exact ⟨rfl, rfl⟩

theorem enc_data (kb : ByteArray) : encStr kb.data.toList = .string kb := by simp [encStr]
theorem fill_one {x : Value} {arr : Array Value} (hx : x.cells = #[x]) (h : arr.size = 1) : Instr.fill (fun i => some (i * 1, 1)) arr [(0, x)] = some #[x] := by
  have := fill_seq (n := 1) [x] 0 arr.toList (by simp [hx]) (by simpa using h)
  simpa [hx] using this

set_option maxRecDepth 1000000 in
set_option maxHeartbeats 1000000 in
theorem names_run : NamesMap Tryz.prog 64 9 := by
  intro w B B' arr ta fr es clk hB harr hB' hst hks hsz
  obtain ⟨i0, hi, hz0, hz1, hz2⟩ := info_parts (P := Tryz.prog) (e := 9) (z := .string ByteArray.empty) (size := 1) (bytes := 16) (by kernel_rfl)
  have hl0 : 1 < arr.size := (Array.getElem?_eq_some_iff.1 harr).1
  have hc1 : w.cell? ⟨B, 1, none⟩ = some (.map (some B')) := by unfold World.cell?; simp [hB, harr]
  have hlt : B' < w.heap.size := (Array.getElem?_eq_some_iff.1 hB').1
  have hrg := run_range_map (P := Tryz.prog) w 62 9 38 B' es clk Tryz.underlying62 hB'
  go_enter Tryz.func64, Tryz.ntmps64
  go_wp2
  go_loopw [3] (fun s wr => ∃ (seen : Array Nat) (done : List MapEntry) (ss : List (List UInt8)), wr.heap[B']? = some (.map es clk) ∧ wr.heap[w.heap.size]? = some (.mapIter (some B') clk seen clk) ∧ Below w.heap.size w wr ∧ (done ++ (leftOf es seen).toList).Perm es.toList ∧
      wr.ownsRow w.heap.size 9 1 s ss.length (ss.map encStr) ∧ ss.map encStr = done.map (·.key)) (fun _ wr => (leftOf es (wr.iterSeen w.heap.size)).size)
  case atStart =>
    exact ⟨#[], [], [], by rw [heap_alloc_old _ _ hlt]; exact hB', heap_alloc_new _ _, (Below.refl _ _).alloc (Nat.le_refl _) _, by rw [left_none]; exact List.Perm.refl _, World.ownsRow_nil _ _ _ _, rfl⟩
  case round =>
    obtain ⟨seen, done, ss, hb1, hi1, hbl, hpm, hrow, hss⟩ := hrel
    have law := run_next_at (P := Tryz.prog) wr 0 w.heap.size B' clk clk seen es clk hi1 hb1 hst.1 (Nat.le_refl _)
    rcases law with ⟨h0, hrun⟩ | ⟨e, he, w2, hal2, hrun⟩
    · have hnx : ∀ ty, (Instr.next (.pointer (some ⟨w.heap.size, 0, none⟩)) false ty).run Tryz.prog wr = _ := fun _ => hrun
      have hl : (leftOf es seen).toList = [] := List.eq_nil_of_length_eq_zero (by rw [Array.length_toList]; exact h0)
      rw [hl, List.append_nil] at hpm
      have hpk : (ss.map encStr).Perm (es.toList.map (·.key)) := by rw [hss]; exact hpm.map _
      have hlen : ss.length ≤ 1000000000 := by
        have := hpk.length_eq
        simp at this
        omega
      rcases hrow.2 with ⟨hnil, hk0⟩ | ⟨g, cap, cur, hv, hbase, hb, h1, h2, h3, h4⟩
      · subst hnil
        obtain rfl : ss = [] := List.eq_nil_of_length_eq_zero hk0
        go_wp2_with (go_at_call 89; refine (Any.slices_Sort_string_none sortLays none 0 _).mono ?_; rintro e w' ⟨rfl, rfl⟩)
        go_ret
        exact ⟨_, [], rfl, hpk, by simpa using World.ownsRow_nil _ _ _ _, hbl⟩
      · subst hv
        have hH : Go.Sort.Holds encStr wr g 0 ss.toArray := holds_of_block hb (by simpa using h4)
        have hgl : g < wr.heap.size := (Array.getElem?_eq_some_iff.1 hb).1
        have hsort := Any.slices_Sort_string sortLays g 0 cap ss wr hH hgl (by omega)
        have hl2 : (ss.mergeSort fun x y => decide (x ≤ y)).length = ss.length := List.length_mergeSort ss
        go_wp2_with (go_at_call 89; refine hsort.mono ?_; rintro e w' ⟨rfl, nn, os, rfl⟩)
        go_ret
        exact ⟨_, ss, rfl, hpk, ownsRow_sorted (n := nn) (os := os) (ts := ss.mergeSort fun x y => decide (x ≤ y)) hl2 hbase hb h1 h2 h3, hbl.grown (grownBy_sorted _) hbl.size (fun j hj => by cases hj; exact hbase)⟩
    · have hmem := mem_left he
      have hp2 := left_perm hst.2.1 he
      have hpm' : ((done ++ [e]) ++ (leftOf es (seen.push e.born)).toList).Perm es.toList := by
        rw [List.append_assoc]
        exact ((List.perm_append_left_iff done).2 hp2.symm).trans hpm
      have hnx : ∀ ty, (Instr.next (.pointer (some ⟨w.heap.size, 0, none⟩)) false ty).run Tryz.prog wr = _ := fun _ => hrun
      have hw2 := heap_drew hal2
      have hil : w.heap.size < w2.heap.size := by rw [hw2]; exact (Array.getElem?_eq_some_iff.1 hi1).1
      obtain ⟨w3, hw3⟩ : ∃ w3, w3 = setBlock w2 w.heap.size (.mapIter (some B') clk (seen.push e.born) clk) := ⟨_, rfl⟩
      have hi2 : w3.heap[w.heap.size]? = some (.mapIter (some B') clk (seen.push e.born) clk) := by rw [hw3]; exact heap_set_self hil
      have hb2 : w3.heap[B']? = some (.map es clk) := by
        rw [hw3, heap_set_other (by omega), hw2]; exact hb1
      have hbl3 : Below w.heap.size w w3 := by rw [hw3]; exact below_set (below_drew hbl hal2) (Nat.le_refl _)
      rw [← hw3] at hnx
      have hen := run_entry_at (P := Tryz.prog) _ w.heap.size B' clk seen es clk e hi2 hb2 hmem.1 hst.2.1
      obtain ⟨kb, hkb⟩ : ∃ kb : ByteArray, e.key = .string kb := by
        have := hks e hmem.1
        cases hk : e.key <;> rw [hk] at this <;> simp [MapKept.IsKey] at this
        exact ⟨_, rfl⟩
      have hiter : ∀ es c, wr.heap[w.heap.size]? ≠ some (.cells es c (0, 0)) := fun es c h => by rw [hi1] at h; cases h
      have hne : u3.ownBlock = none ∨ u3.ownBlock ≠ some w.heap.size := by
        cases hob : u3.ownBlock with
        | none => exact .inl rfl
        | some g =>
          right
          intro h; injection h with h; subst h
          rcases hrow.2 with ⟨rfl, _⟩ | ⟨g', cap, cur, rfl, _, hb, _⟩
          · cases hob
          · cases hob; exact hiter _ _ hb
      have hgr : wr.grownBy w3 (some w.heap.size) := ⟨by rw [hw3]; rcases hal2 with rfl | rfl <;> rfl, by rw [hw3]; rcases hal2 with rfl | rfl <;> rfl, by rw [hw3]; rcases hal2 with rfl | rfl <;> rfl, by rw [hw3, heap_set_size, hw2]; exact Nat.le_refl _, fun k hk hkn => by rw [hw3, heap_set_other (fun e => hkn (by rw [e])), hw2]⟩
      have hrow3 := hrow.kept hgr hne
      have hlen : ss.length < es.size := by
        have h1 := congrArg List.length hss
        have h2 := hpm'.length_eq
        simp at h1 h2
        omega
      rw [hkb] at hnx hen
      have hsz3 : w.heap.size < w3.heap.size := (Array.getElem?_eq_some_iff.1 hi2).1
      clear hrun hw3 hgr hal2 hw2 hil
      go_wp2_with fail
      refine wp_buildSlice 86 9 1 #[(0, .tmp 15)] rfl #[.string kb] i0 (.string ByteArray.empty) Tryz.underlying86 hi hz0 (by rw [hz1]; omega) (by rw [hz1]; omega) ?hf ?_
      case hf =>
        rw [hz1]
        rw [Array.toList_map]
        show Instr.fill (fun i => some (i * 1, 1)) ((Array.range (1 * 1)).map ((Value.string ByteArray.empty).cells[· % (Value.string ByteArray.empty).cells.size]!)) [(0, Value.string kb)] = _
        exact fill_one (by simp [Value.cells]) (by simp)
      go_wp2_with (first
        | (at_builtin; refine wpList_append_own_at _ rfl _ _ 86 rfl w.heap.size 9 i0 (.string ByteArray.empty) 1 16 Tryz.underlying86 hi hz0 hz1 hz2 rfl (by decide) _ _ _ rfl (hrow3.alloc _) ⟨w3.heap.size, 0, none⟩ 1 1 [.string kb] rfl rfl (cell_one_new _ _ _) ?c2 ?c3 ?c4 ?c5 ?_)
        | go_in)
      case c2 => intro u hu; obtain rfl := List.mem_singleton.1 hu; rfl
      case c3 => unfold maxLen; omega
      case c4 => omega
      case c5 => exact (hbl3.alloc (by omega) _).size
      · intro v' w4 hown' hgrow _ hloc
        have hi3 : (w3.alloc (.cells #[.string kb] 9)).heap[w.heap.size]? = some (.mapIter (some B') clk (seen.push e.born) clk) := by rw [heap_alloc_old _ _ hsz3]; exact hi2
        have hb3 : (w3.alloc (.cells #[.string kb] 9)).heap[B']? = some (.map es clk) := by rw [heap_alloc_old _ _ (by omega)]; exact hb2
        have hbl4 : Below w.heap.size w (w3.alloc (.cells #[.string kb] 9)) := hbl3.alloc (by omega) _
        have hrow4 := hrow3.alloc (.cells #[.string kb] 9)
        have hnb : ∀ k, k ≤ w.heap.size → some k ≠ u3.ownBlock := by
          intro k hk h
          have h1 := (hrow3.lt k h.symm).1
          obtain rfl : k = w.heap.size := by omega
          rcases hne with h2 | h2
          · rw [h2] at h; cases h
          · exact h2 h.symm
        have hi5 : w4.heap[w.heap.size]? = some (.mapIter (some B') clk (seen.push e.born) clk) := by rw [hgrow.block _ (by simp; omega) (hnb _ (Nat.le_refl _))]; exact hi3
        have hb5 : w4.heap[B']? = some (.map es clk) := by rw [hgrow.block _ (by simp; omega) (hnb _ (by omega))]; exact hb3
        have hbl5 : Below w.heap.size w w4 := hbl4.grown hgrow hbl4.size (fun j hj => (hrow4.lt j hj).1)
        have hrow5 : w4.ownsRow w.heap.size 9 1 v' (ss ++ [kb.data.toList]).length ((ss ++ [kb.data.toList]).map encStr) := by
          rw [List.map_append, List.map_cons, List.map_nil, enc_data, List.length_append, hss]
          exact hown'
        clear hown' hgrow hloc hrow3 hrow4 hi3 hb3 hbl4
        go_wp2
        go_roundw
        case rel =>
          exact ⟨seen.push e.born, done ++ [e], ss ++ [kb.data.toList], hb5, hi5, hbl5, hpm', hrow5, by rw [List.map_append, List.map_append, hss, List.map_cons, List.map_nil, List.map_cons, List.map_nil, hkb, enc_data]⟩
        case measure =>
          have m1 : wr.iterSeen w.heap.size = seen := by unfold World.iterSeen; rw [hi1]
          have m2 : w4.iterSeen w.heap.size = seen.push e.born := by unfold World.iterSeen; rw [hi5]
          rw [m1, m2]
          exact left_shrinks es seen e he

set_option maxRecDepth 1000000 in
set_option maxHeartbeats 1000000 in
theorem copies_run : CopiesB Tryz.prog 39 5 := by
  intro w ad c ns hn hnil hcell
  obtain ⟨i0, hi, hz0, hz1, hz2⟩ := info_parts (P := Tryz.prog) (e := 5) (z := .int .u8 0) (size := 1) (bytes := 1) (by kernel_rfl)
  have hbs : ∀ (w : World), (Instr.buildSlice 38 0 #[]).run Tryz.prog w = .ok (.slice (some ⟨w.heap.size, 0, none⟩) 0 0) (w.alloc (.cells #[] 5)) := fun w => by
    have h00 : Array.range 0 = #[] := by simp [Array.range]
    simp [Instr.buildSlice, run_underlying Tryz.underlying38, sizeOf, typeInfo, hi, Instr.fill, newRow, h00]
  cases ad with
  | none =>
    obtain ⟨rfl, rfl⟩ := hnil rfl
    go_enter Tryz.func39, Tryz.ntmps39
    go_wp2
    go_ret
    exact ⟨_, rfl, World.ownsRow_made w #[] 0 (Nat.le_refl _) (by unfold maxLen; omega) rfl, (Below.refl _ _).alloc (Nat.le_refl _) _⟩
  | some a =>
    have hown := World.ownsRow_made (base := w.heap.size) (e := 5) (size := 1) w #[] 0 (Nat.le_refl _) (by unfold maxLen; omega) rfl
    have hlt : ∀ i, i < ns.length → (a.add i).block < w.heap.size := fun i hi => World.block_lt_of_cell? w _ (hcell a rfl i hi)
    go_enter Tryz.func39, Tryz.ntmps39
    go_wp2_with (first
        | (at_builtin; refine wpList_append_own_at _ rfl _ _ 38 rfl w.heap.size 5 i0 (.int .u8 0) 1 1 Tryz.underlying38 hi hz0 hz1 hz2 rfl (by decide) _ _ _ rfl hown a ns.length c (ns.map (Value.int .u8)) rfl (by simp) ?c1 ?c2 ?c3 ?c4 ?c5 ?_)
        | go_in)
    case c1 =>
      intro j u hj
      rw [List.getElem?_map] at hj
      obtain ⟨x, hx, rfl⟩ := Option.map_eq_some_iff.1 hj
      have hjl := (List.getElem?_eq_some_iff.1 hx).1
      have h1 := hcell a rfl j hjl
      rw [List.getD_eq_getElem?_getD, hx] at h1
      have h2 : (w.alloc (.cells #[] 5)).cell? (a.add j) = w.cell? (a.add j) := World.cell?_of_block (by rw [heap_alloc_old _ _ (hlt j hjl)])
      rw [h2]
      exact h1
    case c2 => intro u hu; obtain ⟨x, _, rfl⟩ := List.mem_map.1 hu; rfl
    case c3 => unfold maxLen; omega
    case c4 => omega
    case c5 => simp
    · intro v' w4 hown' hgrow _ hloc
      have hb4 : Below w.heap.size w w4 := ((Below.refl _ _).alloc (Nat.le_refl _) _).grown hgrow (by simp) (fun j hj => by cases hj; exact Nat.le_refl _)
      have hr4 : w4.ownsRow w.heap.size 5 1 v' ns.length (ns.map (Value.int .u8)) := by simpa using hown'
      clear hown' hgrow hloc
      go_wp2
      go_ret
      exact ⟨_, rfl, hr4, hb4⟩
end Go.Proofs
/- What the configuration needs: each function is looked at ahead; copies by the shelf's contracts; loops over maps; the chapter's examples, run. -/
set_option linter.unusedVariables false
namespace Go.Proofs
open Go.Lv Go.Shelf
def cbRen : Ren := ⟨fun k => if k = 4 then 35 else k, fun k => if k = 4 then 4 else if k = 22 then 38 else if k = 5 then 5 else k, fun x => x⟩
theorem cbLays : SlLaysK.n4 Tryz.prog cbRen where
  mixed := by kernel_rfl
  f4 := by show Tryz.prog.funcs[35]? = _; rw [Tryz.func35]; rfl
  t4 := Tryz.underlying4
  a4 := Tryz.isAgg4
  z4 := Tryz.sizeOf4
  v4 := Tryz.zeroValue4
  t22 := Tryz.underlying38
  a22 := Tryz.isAgg38
  z22 := Tryz.sizeOf38
  v22 := Tryz.zeroValue38
  t5 := Tryz.underlying5
  i5 := by kernel_rfl
def ceRen : Ren := ⟨fun k => if k = 41 then 68 else k, fun k => if k = 4 then 4 else if k = 22 then 40 else if k = 23 then 57 else k, fun x => x⟩
theorem ceLays : SlLaysE0.n41 Tryz.prog ceRen where
  mixed := by kernel_rfl
  f41 := ⟨_, rfl, by show Tryz.prog.funcs[68]? = _; rw [Tryz.func68]; rfl⟩
  t4 := Tryz.underlying4
  a4 := Tryz.isAgg4
  z4 := Tryz.sizeOf4
  v4 := Tryz.zeroValue4
  t22 := Tryz.underlying40
  a22 := Tryz.isAgg40
  z22 := Tryz.sizeOf40
  v22 := Tryz.zeroValue40
theorem chk_all0 : (okL.all fun f => chkFn Tryz.prog cfg0 f) = true := by kernel_rfl
theorem chk_all : (okL.all fun f => chkFn Tryz.prog cfg f) = true := by kernel_rfl
theorem ext0 : ∀ g s, cfg0.ext g = some s → ∀ args H r H', s args H = some (r, H') → CallOK Tryz.prog (cfg0.sig g) g args H r H' := by
  intro g s hs args H r H' h
  by_cases h1 : g = 35
  · subst h1
    injection hs with hs; subst hs
    exact cloneB_ok cbLays h
  by_cases h2 : g = 68
  · subst h2
    injection hs with hs; subst hs
    exact cloneT_ok (n := 4) (by_ := 32) (z := .agg #[.int .i64 0, .int .i64 0, .int .i64 0, .int .i64 0]) ceLays (by kernel_rfl) rfl h
  by_cases h3 : g = 80
  · subst h3
    injection hs with hs; subst hs
    exact copiedT_ok copied_run h
  by_cases h4 : g = 58
  · subst h4
    injection hs with hs; subst hs
    exact usedT_ok used_run h
  by_cases h5 : g = 64
  · subst h5
    injection hs with hs; subst hs
    exact namesT_ok names_run h
  by_cases h6 : g = 92
  · subst h6
    injection hs with hs; subst hs
    exact equalT_ok Tryz.underlying38 Tryz.underlying5 Tryz.underlying9 equal_run h
  by_cases h7 : g = 46
  · subst h7
    injection hs with hs; subst hs
    exact equalT_ok Tryz.underlying38 Tryz.underlying5 Tryz.underlying9 bytes_run h
  · simp [cfg0, h1, h2, h3, h4, h5, h6, h7] at hs
theorem extc0 : ∀ g, (cfg0.ext g).isSome = true → Callable Tryz.prog g := by
  intro g h
  by_cases h1 : g = 35
  · subst h1; exact ⟨_, Tryz.func35, rfl, by decide⟩
  by_cases h2 : g = 68
  · subst h2; exact ⟨_, Tryz.func68, rfl, by decide⟩
  by_cases h3 : g = 80
  · subst h3; exact ⟨_, Tryz.func80, rfl, by decide⟩
  by_cases h4 : g = 58
  · subst h4; exact ⟨_, Tryz.func58, rfl, by decide⟩
  by_cases h5 : g = 64
  · subst h5; exact ⟨_, Tryz.func64, rfl, by decide⟩
  by_cases h6 : g = 92
  · subst h6; exact ⟨_, Tryz.func92, rfl, by decide⟩
  by_cases h7 : g = 46
  · subst h7; exact ⟨_, Tryz.func46, rfl, by decide⟩
  · simp [cfg0, h1, h2, h3, h4, h5, h6, h7] at h
theorem alt0 : ∀ g s, cfg0.alt g = some s → ∀ args H r H', s args H = some (r, H') → CallOK Tryz.prog {} g args H r H' ∧ Callable Tryz.prog g := by
  intro g s hs args H r H' h
  by_cases h1 : g = 39
  · subst h1
    injection hs with hs; subst hs
    exact ⟨copyBA_ok copies_run h, ⟨_, Tryz.func39, rfl, by decide⟩⟩
  · simp [cfg0, h1] at hs
theorem world0 : World0 Tryz.prog cfg0 where
  ext := ext0
  extc := extc0
  alt := alt0
  chk := by
    intro g _ h
    exact List.all_eq_true.1 chk_all0 g (by simpa [cfg0] using h)
  dyn := by intro g h; cases h
  mixed := by kernel_rfl
theorem run_0 : ((lcallX Tryz.prog cfg0 4000 4 [] []).map fun r => eqA 2 r.1 (.b true)) = some true := by kernel_rfl
theorem closed_cases {g : Nat} (h : closedL.contains g = true) : g = 4 := by
  simpa [closedL] using h
theorem world : World0 Tryz.prog cfg where
  ext := by
    intro g s hs args H r H' h
    by_cases hc : closedL.contains g = true
    · have e : cfg.ext g = some fun args H => closedT true H args := by
        show (if closedL.contains g = true then _ else _) = _
        rw [if_pos hc]
      rw [e] at hs
      injection hs with hs; subst hs
      obtain rfl := closed_cases hc
      exact closedT_ok world0 rfl run_0 h
    · have e : cfg.ext g = cfg0.ext g := by
        show (if closedL.contains g = true then _ else _) = _
        rw [if_neg hc]
      rw [e] at hs
      exact ext0 g s hs args H r H' h
  extc := by
    intro g h
    by_cases hc : closedL.contains g = true
    · obtain rfl := closed_cases hc
      exact ⟨_, Tryz.func4, rfl, by decide⟩
    · have e : cfg.ext g = cfg0.ext g := by
        show (if closedL.contains g = true then _ else _) = _
        rw [if_neg hc]
      rw [e] at h
      exact extc0 g h
  alt := alt0
  chk := by
    intro g _ h
    exact List.all_eq_true.1 chk_all g (by simpa [cfg, cfg0] using h)
  dyn := by intro g h; cases h
  mixed := by kernel_rfl
/-- The chapters' examples hold. -/
theorem first23_w {H : Heap} : WF Tryz.prog cfg 4 [] H (fun r H' => r = .b true ∧ H' = H) := WF.ext (g := fun args H => closedT true H args) rfl (r := .b true) (H' := H) rfl ⟨rfl, rfl⟩
end Go.Proofs
/- Walks: numbers as bytes. -/
set_option linter.unusedVariables false
set_option linter.unusedSimpArgs false
namespace Go.Proofs
open Go.Lv
namespace Jn
variable {H : Heap}

theorem wrap_put (n k : Nat) : AV.v (.int .u8 (IntKind.u8.wrap ((n : Int) / 2 ^ k))) = byteA (UInt8.ofNat (n / 2 ^ k)) := by
  unfold byteA
  congr 2
theorem put_w (n width : Nat) (h1 : 1 ≤ width) (h2 : width ≤ 6) (h3 : n < 2 ^ (8 * width)) (h4 : n < 281474976710656) : WF Tryz.prog cfg 93 [.i n, .i width] H (fun r H' => ∃ j, H.length ≤ j ∧ r = .tup [.mr j 0 width 1 false, .i 0] ∧ H'[j]? = some ((Jr.put n width).map byteA) ∧ H <+: H') := by
  have hm : ∀ d, cfg.muF 93 d = (d == 26) := fun _ => rfl
  have hz : ∀ d, cfg.fzF 93 d = (false) := fun _ => rfl
  have ht : ∀ d, cfg.tkF 93 d = (false) := fun _ => rfl
  have hr_ : ∀ g, cfg.raw g = (g == 68) := fun _ => rfl
  refine rF_fn rfl rfl Tryz.func93 rfl ?_
  have hq0 : (n : Int) / 2 ^ (8 * (width : Int)).toNat = 0 := by
    have e : (8 * (width : Int)).toNat = 8 * width := by omega
    rw [e]
    have : ((n / 2 ^ (8 * width) : Nat) : Int) = 0 := by rw [Nat.div_eq_of_lt h3]; rfl
    rw [← this]; push_cast; rfl
  repeat' first | simp (disch := first | omega | assumption | decide) only [go_sem, hm, hz, ht, hr_, hq0] | refine ifP_in (fun _ => ?_) fun _ => ?_
  rw [make_row (f := byteA) (z0 := 0) (zero_is (P := Tryz.prog) (t := 5)) (by omega) (by omega) (by omega) (by omega), bindP_some]
  simp only [Int.toNat_natCast]
  repeat' first | simp (disch := first | omega | assumption | decide) only [go_sem, hm, hz, ht, hr_] | refine ifP_in (fun _ => ?_) fun _ => ?_
  refine rL_loop (σ := Nat) (fun i e H' => ∃ xs : List UInt8, H <+: H' ∧ e 0 = .i n ∧ e 1 = .i width ∧ e 6 = .mr H.length 0 width 1 false ∧ e 27 = e 6 ∧ e 28 = .i width ∧ e 29 = .i i ∧ i ≤ width ∧ H'[H.length]? = some (xs.map byteA) ∧ xs.length = width ∧ ∀ k, k < i → xs[k]? = some (Jr.putAt n width k)) (fun i => width - i) 0 ?_ ?_
  · refine ⟨List.replicate width 0, List.prefix_append _ _, ?_, ?_, ?_, ?_, ?_, ?_, by omega, ?_, by simp, fun k hk => by omega⟩
    all_goals first | (simp (disch := first | assumption | omega) only [go_sem]; done) | (simp (disch := first | assumption | omega) only [go_sem]; rfl) | simp
  · rintro i e H' ⟨xs, hp, g0, g1, g6, g27, g28, g29, i1, i3, i4, i2⟩
    repeat' first | simp (disch := first | omega | assumption | decide) only [go_sem, hm, hz, ht, hr_, g0, g1, g6, g27, g28, g29] | refine ifP_in (fun _ => ?_) fun _ => ?_
    · have hlt : i < width := by omega
      have hb : AV.v (.int .u8 (IntKind.u8.wrap ((n : Int) / 2 ^ (8 * ((width : Int) - 1 - i)).toNat))) = byteA (Jr.putAt n width i) := by
        have e : (8 * ((width : Int) - 1 - i)).toNat = 8 * (width - 1 - i) := by omega
        rw [e]
        exact wrap_put _ _
      rw [hb, store_row i3 (by omega), bindP_some]
      repeat' first | simp (disch := first | omega | assumption | decide) only [go_sem, hm, hz, ht, hr_, g0, g1, g6, g27, g28, g29] | refine ifP_in (fun _ => ?_) fun _ => ?_
      refine ⟨i + 1, ⟨xs.set i (Jr.putAt n width i), pre_set1 hp (Nat.le_refl _) _, by congr 2, by omega, get_set (by have := (List.getElem?_eq_some_iff.1 i3).1; exact this), by simpa using i4, fun k hk => ?_⟩, by omega⟩
      by_cases hki : k = i
      · subst hki; rw [List.getElem?_set_self (by omega)]
      · rw [List.getElem?_set_ne (fun h => hki h.symm)]; exact i2 k (by omega)
    · refine ⟨H.length, Nat.le_refl _, rfl, ?_, hp⟩
      have : xs = Jr.put n width := by
        apply List.ext_getElem?
        intro k
        by_cases hk : k < width
        · rw [i2 k (by omega)]; simp [Jr.put, hk]
        · rw [List.getElem?_eq_none (by omega), List.getElem?_eq_none (by simp [Jr.put]; omega)]
      rw [← this]; exact i3

theorem crc_w (l : List UInt8) (hl : l.length < 100000000) : WF Tryz.prog cfg 94 [.sl (l.map byteA)] H (fun r H' => r = .v (.int .u32 ((Jr.crc l).toNat : Int)) ∧ H' = H) := by
  have hm : ∀ d, cfg.muF 94 d = (false) := fun _ => rfl
  have hz : ∀ d, cfg.fzF 94 d = (false) := fun _ => rfl
  have ht : ∀ d, cfg.tkF 94 d = (false) := fun _ => rfl
  have hr_ : ∀ g, cfg.raw g = (g == 68) := fun _ => rfl
  refine rF_fn rfl rfl Tryz.func94 rfl ?_
  repeat' first | simp (disch := first | omega | assumption | decide) only [go_sem, hm, hz, ht, hr_] | refine ifP_in (fun _ => ?_) fun _ => ?_
  refine rL_loop (σ := Nat) (fun i e H' => H' = H ∧ e 7 = .sl (l.map byteA) ∧ e 8 = .i l.length ∧ e 9 = .i i ∧ i ≤ l.length ∧ e 3 = .v (.int .u32 (((l.take i).foldl Jr.crcB 4294967295).toNat : Int))) (fun i => l.length - i) 0 ?_ ?_
  · refine ⟨rfl, ?_, ?_, ?_, by omega, ?_⟩
    all_goals first | (simp (disch := first | assumption | omega) only [go_sem]; done) | (simp (disch := first | assumption | omega) only [go_sem]; rfl)
  · rintro i e H' ⟨rfl, g7, g8, g9, i1, g3⟩
    repeat' first | simp (disch := first | omega | assumption | decide) only [go_sem, hm, hz, ht, hr_, g7, g8, g9, g3, bin_xor_ub] | refine ifP_in (fun _ => ?_) fun _ => ?_
    · have hi : i < l.length := by omega
      generalize hs : (l.take i).foldl Jr.crcB 4294967295 ^^^ (ix l (i : Int)).toUInt32 = s
      refine rL_loop (σ := Nat) (fun k e H'' => H'' = H' ∧ e 7 = .sl (l.map byteA) ∧ e 8 = .i l.length ∧ e 9 = .i i ∧ e 17 = .i k ∧ k ≤ 8 ∧ e 3 = .v (.int .u32 ((Jr.bitsN k s).toNat : Int))) (fun k => 8 - k) 0 ?_ ?_
      · refine ⟨rfl, ?_, ?_, ?_, ?_, by omega, ?_⟩
        all_goals first | (simp (disch := first | assumption | omega) only [go_sem, g7, g8, g9, bin_xor_ub]; done) | (simp (disch := first | assumption | omega) only [go_sem, g7, g8, g9]; rfl) | (rw [← hs]; simp (disch := first | assumption | omega) only [go_sem]; rfl)
      · rintro k e H'' ⟨rfl, g7, g8, g9, g17, k1, g3⟩
        repeat' first | simp (disch := first | omega | assumption | decide) only [go_sem, hm, hz, ht, hr_, g7, g8, g9, g17, g3, bin_and_one, bin_shr_one, bin_xor_poly] | refine ifP_in (fun _ => ?_) fun _ => ?_
        · rename_i hlow
          have hl1 : Jr.bitsN k s &&& 1 = 1 := UInt32.toNat_inj.1 (by show _ = 1; omega)
          refine ⟨k + 1, ⟨by congr 2, by omega, ?_⟩, by omega⟩
          rw [Jr.bitsN, Jr.bit, if_pos hl1]
        · rename_i hlow
          have hl1 : ¬ Jr.bitsN k s &&& 1 = 1 := fun h => hlow (by rw [h]; rfl)
          refine ⟨k + 1, ⟨by congr 2, by omega, ?_⟩, by omega⟩
          rw [Jr.bitsN, Jr.bit, if_neg hl1]
        · have hk : k = 8 := by omega
          subst hk
          refine ⟨i + 1, ⟨by congr 2, by omega, ?_⟩, by omega⟩
          have hx : ix l (i : Int) = l[i] := by simp [ix, List.getD_eq_getElem?_getD, List.getElem?_eq_getElem hi]
          rw [List.take_succ_eq_append_getElem hi, List.foldl_append, ← hs, hx]
          rfl
    · have hk : i = l.length := by omega
      subst hk
      rw [List.take_length]
      repeat' first | simp (disch := first | omega | assumption | decide) only [go_sem, hm, hz, ht, hr_, un1_xor_u32] | refine ifP_in (fun _ => ?_) fun _ => ?_
      rfl

/-- Bytes that may be read: a plain row, or one that may be written. -/
def Reads (H : Heap) (a : AV) (l : List UInt8) : Prop := a = .sl (l.map byteA) ∨ ∃ (j off : Nat) (xs : List UInt8), a = .mr j off l.length 1 false ∧ H[j]? = some (xs.map byteA) ∧ (xs.drop off).take l.length = l ∧ 0 < l.length

theorem get_w (l : List UInt8) (hl : l.length ≤ 2147483648) {a : AV} (ha : Reads H a l) : WF Tryz.prog cfg 91 [a, .i 0, .i 2] H (fun r H' => r = (if l.length < 2 then .tup [.i 0, .i 2] else .tup [.i (Jr.get (l.take 2)), .i 0]) ∧ H' = H) := by
  have hget : ∀ i, i < 2 → i < l.length → Jr.get ((l.take 2).take (i + 1)) = Jr.get ((l.take 2).take i) * 256 + (l.getD i 0).toNat := by
    intro i hi hil
    rw [List.take_succ_eq_append_getElem (by simp; omega), Jr.get, List.foldl_append]
    simp [Jr.get, List.getD_eq_getElem?_getD, hil]
  have hbnd : ∀ i, i < 2 → Jr.get ((l.take 2).take i) < 1099511627776 := by
    intro i hi
    match i, hi with
    | 0, _ => simp [Jr.get]
    | 1, _ =>
      cases l with
      | nil => simp [Jr.get]
      | cons b l => have := b.toNat_lt; simp [Jr.get]; omega
  rcases ha with rfl | ⟨j, off, xs, rfl, hj, hx, h0⟩
  · have hm : ∀ d, cfg.muF 91 d = (false) := fun _ => rfl
    have hz : ∀ d, cfg.fzF 91 d = (false) := fun _ => rfl
    have ht : ∀ d, cfg.tkF 91 d = (false) := fun _ => rfl
    have hr_ : ∀ g, cfg.raw g = (g == 68) := fun _ => rfl
    refine rF_fn rfl rfl Tryz.func91 rfl ?_
    repeat' first | simp (disch := first | omega | assumption | decide) only [go_sem, hm, hz, ht, hr_] | refine ifP_in (fun _ => ?_) fun _ => ?_
    · rw [if_pos (by omega)]
    · rw [if_neg (by omega)]
      refine rL_loop (σ := Nat) (fun i e H' => H' = H ∧ e 40 = .sl ((l.take 2).map byteA) ∧ e 41 = .i ((l.take 2).length) ∧ e 42 = .i i ∧ i ≤ 2 ∧ e 8 = .i (Jr.get ((l.take 2).take i))) (fun i => 2 - i) 0 ?_ ?_
      · refine ⟨rfl, ?_, ?_, ?_, by omega, ?_⟩
        all_goals first | (simp (disch := first | assumption | omega) only [go_sem]; done) | (simp (disch := first | assumption | omega) only [go_sem]; rfl)
      · rintro i e H' ⟨rfl, g40, g41, g42, i1, g8⟩
        have hl2 : (l.take 2).length = 2 := by simp; omega
        by_cases hi : i < 2
        · have hb := hbnd i hi
          have hg := hget i hi (by omega)
          have hix : ix (l.take 2) (i : Int) = l.getD i 0 := by
            simp [ix, List.getD_eq_getElem?_getD, List.getElem?_take, hi]; rfl
          repeat' first | simp (disch := first | omega | assumption | decide) only [go_sem, hm, hz, ht, hr_, g40, g41, g42, g8, hl2, or_byte hb, hix] | refine ifP_in (fun _ => ?_) fun _ => ?_
          refine ⟨i + 1, ⟨by congr 2, by omega, ?_⟩, by omega⟩
          rw [hg]
        · have : i = 2 := by omega
          subst this
          repeat' first | simp (disch := first | omega | assumption | decide) only [go_sem, hm, hz, ht, hr_, g40, g41, g42, g8, hl2] | refine ifP_in (fun _ => ?_) fun _ => ?_
          rw [List.take_take]
          rfl
  · have hm : ∀ d, cfg.muF 91 d = (false) := fun _ => rfl
    have hz : ∀ d, cfg.fzF 91 d = (false) := fun _ => rfl
    have ht : ∀ d, cfg.tkF 91 d = (false) := fun _ => rfl
    have hr_ : ∀ g, cfg.raw g = (g == 68) := fun _ => rfl
    refine rF_fn rfl rfl Tryz.func91 rfl ?_
    repeat' first | simp (disch := first | omega | assumption | decide) only [go_sem, hm, hz, ht, hr_] | refine ifP_in (fun _ => ?_) fun _ => ?_
    · rw [if_pos (by omega)]
    · rw [if_neg (by omega)]
      have hxi : ∀ i, i < l.length → xs[off + i]? = some (l.getD i 0) := by
        intro i hi
        have h : l[i]? = xs[off + i]? := by
          conv => lhs; rw [← hx]
          rw [List.getElem?_take, if_pos hi, List.getElem?_drop]
        rw [← h, List.getD_eq_getElem?_getD, List.getElem?_eq_getElem hi]
        rfl
      refine rL_loop (σ := Nat) (fun i e H' => H' = H ∧ e 40 = .mr j off 2 1 false ∧ e 41 = .i 2 ∧ e 42 = .i i ∧ i ≤ 2 ∧ e 8 = .i (Jr.get ((l.take 2).take i))) (fun i => 2 - i) 0 ?_ ?_
      · refine ⟨rfl, ?_, ?_, ?_, by omega, ?_⟩
        all_goals first | (simp (disch := first | assumption | omega) only [go_sem]; done) | (simp (disch := first | assumption | omega) only [go_sem]; rfl)
      · rintro i e H' ⟨rfl, g40, g41, g42, i1, g8⟩
        by_cases hi : i < 2
        · have hb := hbnd i hi
          have hg := hget i hi (by omega)
          repeat' first | simp (disch := first | omega | assumption | decide) only [go_sem, hm, hz, ht, hr_, g40, g41, g42, g8, hj, plainD_map, partD_map, hxi i (by omega), or_byte hb] | refine ifP_in (fun _ => ?_) fun _ => ?_
          refine ⟨i + 1, ⟨by congr 2, by omega, ?_⟩, by omega⟩
          rw [hg]
        · have : i = 2 := by omega
          subst this
          repeat' first | simp (disch := first | omega | assumption | decide) only [go_sem, hm, hz, ht, hr_, g40, g41, g42, g8] | refine ifP_in (fun _ => ?_) fun _ => ?_
          rw [List.take_take]
          rfl
end Jn
end Go.Proofs
/- Walks: frames. -/
set_option linter.unusedVariables false
set_option linter.unusedSimpArgs false
namespace Go.Proofs
open Go.Lv
namespace Jn
variable {H : Heap}

theorem pre_get {H H' : Heap} {j : Nat} {cs : List AV} (hp : H <+: H') (h : H[j]? = some cs) : H'[j]? = some cs := by
  obtain ⟨G, rfl⟩ := hp
  rw [List.getElem?_append_left (List.getElem?_eq_some_iff.1 h).1]; exact h
theorem clone_w (l : List UInt8) (hl : l.length ≤ 140737488355328) {a : AV} (ha : Reads H a l) : WF Tryz.prog cfg 35 [a] H (fun r H' => r = .sl (l.map byteA) ∧ H' = H) := by
  rcases ha with rfl | ⟨j, off, xs, rfl, hj, hx, h0⟩
  · refine WF.ext (g := fun args H => cloneB H args) rfl (r := .sl (l.map byteA)) (H' := H) ?_ ⟨rfl, rfl⟩
    show cloneB H [.sl (l.map byteA)] = _
    simp only [cloneB, u8s_bytes, Option.bind_some]
    rw [if_pos (by simp; omega)]
  · refine WF.ext (g := fun args H => cloneB H args) rfl (r := .sl (l.map byteA)) (H' := H) ?_ ⟨rfl, rfl⟩
    have e : ((xs.map byteA).drop off).take l.length = l.map byteA := by rw [← List.map_drop, ← List.map_take, hx]
    have hle : off + l.length ≤ xs.length := by
      have := congrArg List.length hx
      simp at this; omega
    show cloneB H [.mr j off l.length 1 false] = _
    simp only [cloneB, hj, Option.bind_some, e, u8s_bytes]
    rw [if_pos ⟨by rw [List.length_map]; exact hle, h0, by omega, (plainRow_spec (plainRow_one (all_cell1 xs))).1⟩]

theorem frame_w (p : List UInt8) (hp : p.length ≤ 60000) : WF Tryz.prog cfg 78 [.sl (p.map byteA)] H (fun r H' => r = .sl ((Jr.frame p).map byteA) ∧ H <+: H') := by
  have hm : ∀ d, cfg.muF 78 d = (d == 25 || d == 27) := fun _ => rfl
  have hz : ∀ d, cfg.fzF 78 d = (d == 2) := fun _ => rfl
  have ht : ∀ d, cfg.tkF 78 d = (false) := fun _ => rfl
  have hr_ : ∀ g, cfg.raw g = (g == 68) := fun _ => rfl
  refine rF_fn rfl rfl Tryz.func78 rfl ?_
  repeat' first | simp (disch := first | omega | assumption | decide) only [go_sem, hm, hz, ht, hr_] | refine ifP_in (fun _ => ?_) fun _ => ?_
  refine rF_use (put_w p.length 2 (by omega) (by omega) (by omega) (by omega)) ?_
  rintro _ H1 ⟨j, hj, rfl, h1, hp1⟩
  repeat' first | simp (disch := first | omega | assumption | decide) only [go_sem, hm, hz, ht, hr_] | refine ifP_in (fun _ => ?_) fun _ => ?_
  have l1 := Jr.put_len p.length 2
  refine rF_use (clone_w (Jr.put p.length 2) (by omega) (.inr ⟨j, 0, _, by rw [l1], h1, by simp, by omega⟩)) ?_
  rintro _ H2 ⟨rfl, rfl⟩
  repeat' first | simp (disch := first | omega | assumption | decide) only [go_sem, hm, hz, ht, hr_] | refine ifP_in (fun _ => ?_) fun _ => ?_
  refine rF_use (crc_w (Jr.put p.length 2 ++ p) (by simp; omega)) ?_
  rintro _ H3 ⟨rfl, rfl⟩
  have hc := u32_toNat_lt (Jr.crc (Jr.put p.length 2 ++ p))
  generalize hcr : (Jr.crc (Jr.put p.length 2 ++ p)).toNat = c at hc
  repeat' first | simp (disch := first | omega | assumption | decide) only [go_sem, hm, hz, ht, hr_] | refine ifP_in (fun _ => ?_) fun _ => ?_
  refine rF_use (put_w c 4 (by omega) (by omega) (by omega) (by omega)) ?_
  rintro _ H4 ⟨j2, hj2, rfl, h2, hp2⟩
  have l2 := Jr.put_len c 4
  have h1' : H4[j]? = some ((Jr.put p.length 2).map byteA) := pre_get hp2 h1
  repeat' first | simp (disch := first | omega | assumption | decide) only [go_sem, hm, hz, ht, hr_] | refine ifP_in (fun _ => ?_) fun _ => ?_
  have v2 : viewR Tryz.prog H4 38 (.mr j2 0 4 1 false) = .sl ((Jr.put c 4).map byteA) := by
    rw [view_mr (f := byteA) h2 (by omega) (by omega), List.drop_zero, List.take_of_length_le (by omega)]
  rw [v2, appendM_mr (f := byteA) h1' (by omega) (by omega) rfl (by omega) (by omega), bindP_some, List.take_of_length_le (by omega), l2]
  have hlast : (H4.set j [] ++ [(Jr.put p.length 2 ++ Jr.put c 4).map byteA])[H4.length]? = some ((Jr.put p.length 2 ++ Jr.put c 4).map byteA) := get_end
  have hpre : H <+: H4.set j [] ++ [(Jr.put p.length 2 ++ Jr.put c 4).map byteA] := pre_set (List.IsPrefix.trans hp1 hp2) hj _ _
  have hfr : Jr.frame p = Jr.put p.length 2 ++ Jr.put c 4 ++ p := by rw [Jr.frame, ← hcr]
  generalize hH5 : H4.set j [] ++ [(Jr.put p.length 2 ++ Jr.put c 4).map byteA] = H5 at hlast hpre
  have hj5 : H.length ≤ H4.length := pre_len (List.IsPrefix.trans hp1 hp2)
  generalize H4.length = j5 at hlast hj5
  have hlen : (Jr.put p.length 2 ++ Jr.put c 4).length = 6 := by rw [List.length_append, l1, l2]
  repeat' first | simp (disch := first | omega | assumption | decide) only [go_sem, hm, hz, ht, hr_] | refine ifP_in (fun _ => ?_) fun _ => ?_
  rcases Nat.eq_zero_or_pos p.length with h0 | h0
  · have hpn : p = [] := List.eq_nil_of_length_eq_zero h0
    have e0 : p.map byteA = [] := by rw [hpn]; rfl
    rw [e0, appendM_none (by omega), bindP_some]
    repeat' first | simp (disch := first | omega | assumption | decide) only [go_sem, hm, hz, ht, hr_] | refine ifP_in (fun _ => ?_) fun _ => ?_
    rw [freeze_mr (f := byteA) hlast (by omega) (by omega), bindP_some]
    repeat' first | simp (disch := first | omega | assumption | decide) only [go_sem, hm, hz, ht, hr_] | refine ifP_in (fun _ => ?_) fun _ => ?_
    refine ⟨?_, pre_set1 hpre hj5 _⟩
    rw [hfr, List.take_of_length_le (by omega)]
    simp [hpn]
  · rw [appendM_mr (f := byteA) hlast (by omega) (by omega) rfl (by omega) (by omega), bindP_some, List.take_of_length_le (by omega)]
    repeat' first | simp (disch := first | omega | assumption | decide) only [go_sem, hm, hz, ht, hr_] | refine ifP_in (fun _ => ?_) fun _ => ?_
    rw [freeze_mr (f := byteA) get_end (by omega) (by rw [List.length_append]; omega), bindP_some]
    repeat' first | simp (disch := first | omega | assumption | decide) only [go_sem, hm, hz, ht, hr_] | refine ifP_in (fun _ => ?_) fun _ => ?_
    refine ⟨?_, ?_⟩
    · rw [hfr, List.take_of_length_le (by rw [List.length_append]; omega)]
    · refine pre_set1 (pre_set hpre hj5 _ _) (pre_len hpre) _
end Jn
end Go.Proofs
