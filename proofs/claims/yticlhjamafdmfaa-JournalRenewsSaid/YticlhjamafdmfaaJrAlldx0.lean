/- Loops over maps: a copy, and lengths added up. -/
import Derived.Test.YticlhjamafdmfaaLvAll9
import Derived.WalkKit
import Derived.LoopTactic
import Derived.LoopN
import Derived.Carry
import Derived.Test.YticlhjamafdmfaaCfgR2
import Derived.Test.YticlhjamafdmfaaJrAllcx0
set_option linter.unusedVariables false
set_option linter.unusedSimpArgs false
namespace Go.Proofs
open Go.Lv
open Go.RowKit (Below)
open Go.ChangeMaps (setBlock)

theorem heap_set_other {w : World} {r k : Nat} {o : Obj} (h : k ≠ r) : (setBlock w r o).heap[k]? = w.heap[k]? := by
  unfold setBlock
  simp only
  rw [Array.getElem?_setIfInBounds_ne (Ne.symm h)]
theorem heap_set_self {w : World} {r : Nat} {o : Obj} (h : r < w.heap.size) : (setBlock w r o).heap[r]? = some o := by
  unfold setBlock
  simp [h]
theorem heap_set_size {w : World} {r : Nat} {o : Obj} : (setBlock w r o).heap.size = w.heap.size := by
  unfold setBlock
  simp
theorem below_set {B : Nat} {w w1 : World} {r : Nat} {o : Obj} (h : Below B w w1) (hr : B ≤ r) : Below B w (setBlock w1 r o) :=
  ⟨h.os, h.tape, h.output, by rw [heap_set_size]; exact h.size, fun k hk => by rw [heap_set_other (by omega)]; exact h.block k hk⟩
theorem below_drew {B : Nat} {w w1 w2 : World} (h : Below B w w1) (h2 : w2 = w1 ∨ w2 = w1.drew) : Below B w w2 := by
  rcases h2 with rfl | rfl
  · exact h
  · exact ⟨h.os, h.tape, h.output, h.size, h.block⟩
theorem heap_drew {w1 w2 : World} (h2 : w2 = w1 ∨ w2 = w1.drew) : w2.heap = w1.heap := by
  rcases h2 with rfl | rfl <;> rfl

set_option maxRecDepth 1000000 in
theorem used_run : SumsMap Try.prog 37 := by
  intro w B B' arr t es clk hB harr hB' hst hsl hle
  have hl0 : 1 < arr.size := (Array.getElem?_eq_some_iff.1 harr).1
  have hc1 : w.cell? ⟨B, 1, none⟩ = some (.map (some B')) := by unfold World.cell?; simp [hB, harr]
  have hlt : B' < w.heap.size := (Array.getElem?_eq_some_iff.1 hB').1
  have hrg := run_range_map (P := Try.prog) w 86 9 22 B' es clk Try.underlying86 hB'
  go_enter Try.func37, Try.ntmps37
  go_wp2
  go_loopw [3] (fun s wr => ∃ (seen : Array Nat) (done : List MapEntry), wr.heap[B']? = some (.map es clk) ∧ wr.heap[w.heap.size]? = some (.mapIter (some B') clk seen clk) ∧ Below w.heap.size w wr ∧ (done ++ (leftOf es seen).toList).Perm es.toList ∧ s = .int .i64 (done.map fun e => lenV e.val).sum) (fun _ wr => (leftOf es (wr.iterSeen w.heap.size)).size)
  case atStart =>
    exact ⟨#[], [], by rw [heap_alloc_old _ _ hlt]; exact hB', heap_alloc_new _ _, (Below.refl _ _).alloc (Nat.le_refl _) _, by rw [left_none]; exact List.Perm.refl _, rfl⟩
  case round =>
    obtain ⟨seen, done, hb1, hi1, hbl, hpm, rfl⟩ := hrel
    have law := run_next_at (P := Try.prog) wr 0 w.heap.size B' clk clk seen es clk hi1 hb1 hst.1 (Nat.le_refl _)
    rcases law with ⟨h0, hrun⟩ | ⟨e, he, w2, hal2, hrun⟩
    · have hnx : ∀ ty, (Instr.next (.pointer (some ⟨w.heap.size, 0, none⟩)) false ty).run Try.prog wr = _ := fun _ => hrun
      go_wp2
      go_ret
      have hl : (leftOf es seen).toList = [] := List.eq_nil_of_length_eq_zero (by rw [Array.length_toList]; exact h0)
      rw [hl, List.append_nil] at hpm
      rw [sum_perm (hpm.map _)]
      exact ⟨rfl, hbl⟩
    · have hmem := mem_left he
      have hsv := hsl e hmem.1
      obtain ⟨ad, n, cp, hval⟩ : ∃ ad n cp, e.val = .slice ad n cp := by
        generalize e.val = v at hsv
        cases v <;> first | exact ⟨_, _, _, rfl⟩ | cases hsv
      have hp2 := left_perm hst.2.1 he
      have hnn : ∀ l : List MapEntry, 0 ≤ (l.map fun e => lenV e.val).sum := by
        intro l
        induction l with
        | nil => simp
        | cons x l ih =>
          rw [List.map_cons, List.sum_cons]
          have : 0 ≤ lenV x.val := by cases x.val <;> simp [lenV]
          omega
      have hpm' : ((done ++ [e]) ++ (leftOf es (seen.push e.born)).toList).Perm es.toList := by
        rw [List.append_assoc]
        exact ((List.perm_append_left_iff done).2 hp2.symm).trans hpm
      have htot := sum_perm (hpm'.map fun e => lenV e.val)
      rw [List.map_append, List.map_append, List.sum_append, List.sum_append] at htot
      have h1 := hnn done
      have h2 := hnn (leftOf es (seen.push e.born)).toList
      have h3 : ([e].map fun e => lenV e.val).sum = n := by simp [hval, lenV]
      rw [h3] at htot
      rw [hval] at hrun
      have hnx : ∀ ty, (Instr.next (.pointer (some ⟨w.heap.size, 0, none⟩)) false ty).run Try.prog wr = _ := fun _ => hrun
      have hw2 := heap_drew hal2
      have hil : w.heap.size < w2.heap.size := by rw [hw2]; exact (Array.getElem?_eq_some_iff.1 hi1).1
      have hi2 : (setBlock w2 w.heap.size (.mapIter (some B') clk (seen.push e.born) clk)).heap[w.heap.size]? = some (.mapIter (some B') clk (seen.push e.born) clk) := heap_set_self hil
      have hb2 : (setBlock w2 w.heap.size (.mapIter (some B') clk (seen.push e.born) clk)).heap[B']? = some (.map es clk) := by
        rw [heap_set_other (by omega), hw2]; exact hb1
      have hen := run_entry_at (P := Try.prog) _ w.heap.size B' clk seen es clk e hi2 hb2 hmem.1 hst.2.1
      rw [hval] at hen
      go_wp2
      go_roundw
      case rel =>
        refine ⟨seen.push e.born, done ++ [e], hb2, hi2, below_set (below_drew hbl hal2) (Nat.le_refl _), hpm', ?_⟩
        rw [List.map_append, List.sum_append, h3]
      case measure =>
        have m1 : wr.iterSeen w.heap.size = seen := by unfold World.iterSeen; rw [hi1]
        have m2 : (setBlock w2 w.heap.size (.mapIter (some B') clk (seen.push e.born) clk)).iterSeen w.heap.size = seen.push e.born := by unfold World.iterSeen; rw [hi2]
        rw [m1, m2]
        exact left_shrinks es seen e he

set_option maxRecDepth 1000000 in
theorem copied_run : CopiesMap Try.prog 63 := by
  intro w B es clk hB hst hks
  have hlt : B < w.heap.size := (Array.getElem?_eq_some_iff.1 hB).1
  have hmm : ∀ (t : TypeId) (w : World), (Instr.makeMap t none).run Try.prog w = .ok (.map (some w.heap.size)) (w.alloc (.map #[] 0)) := fun _ _ => rfl
  have e1 : (w.alloc (.map #[] 0)).heap.size = w.heap.size + 1 := by simp
  have hB1 : (w.alloc (.map #[] 0)).heap[B]? = some (.map es clk) := by rw [heap_alloc_old _ _ hlt]; exact hB
  have hrg := run_range_map (P := Try.prog) (w.alloc (.map #[] 0)) 86 9 22 B es clk Try.underlying86 hB1
  rw [e1] at hrg
  go_enter Try.func63, Try.ntmps63
  go_wp2
  go_loopw [] (fun wr => ∃ (seen : Array Nat) (done : List MapEntry) (os : List MapEntry) (oclk : Nat), wr.heap[B]? = some (.map es clk) ∧ wr.heap[w.heap.size + 1]? = some (.mapIter (some B) clk seen clk) ∧ wr.heap[w.heap.size]? = some (.map os.toArray oclk) ∧
      MapKept.Stamped os.toArray oclk ∧ Below w.heap.size w wr ∧ (done ++ (leftOf es seen).toList).Perm es.toList ∧ os.map kvOf = done.map kvOf) (fun wr => (leftOf es (wr.iterSeen (w.heap.size + 1))).size)
  case atStart =>
    refine ⟨#[], [], [], 0, ?_, ?_, ?_, MapKept.stamped_empty 0, ((Below.refl _ _).alloc (Nat.le_refl _) _).alloc (by simp) _, by rw [left_none]; exact List.Perm.refl _, rfl⟩
    · rw [heap_alloc_old _ _ (by rw [e1]; omega)]; exact hB1
    · rw [← e1]; exact heap_alloc_new _ _
    · rw [heap_alloc_old _ _ (by rw [e1]; omega)]; exact heap_alloc_new _ _
  case round =>
    obtain ⟨seen, done, os, oclk, hb1, hi1, ho1, hso, hbl, hpm, hos⟩ := hrel
    have law := run_next_at (P := Try.prog) wr 0 (w.heap.size + 1) B clk clk seen es clk hi1 hb1 hst.1 (Nat.le_refl _)
    rcases law with ⟨h0, hrun⟩ | ⟨e, he, w2, hal2, hrun⟩
    · have hnx : ∀ ty, (Instr.next (.pointer (some ⟨w.heap.size + 1, 0, none⟩)) false ty).run Try.prog wr = _ := fun _ => hrun
      go_wp2
      go_ret
      have hl : (leftOf es seen).toList = [] := List.eq_nil_of_length_eq_zero (by rw [Array.length_toList]; exact h0)
      rw [hl, List.append_nil] at hpm
      refine ⟨rfl, os.toArray, oclk, ho1, hso, ?_, hbl⟩
      simp only
      rw [hos]
      exact (hpm.map kvOf).symm
    · have hmem := mem_left he
      have hp2 := left_perm hst.2.1 he
      have hpm' : ((done ++ [e]) ++ (leftOf es (seen.push e.born)).toList).Perm es.toList := by
        rw [List.append_assoc]
        exact ((List.perm_append_left_iff done).2 hp2.symm).trans hpm
      have hnx : ∀ ty, (Instr.next (.pointer (some ⟨w.heap.size + 1, 0, none⟩)) false ty).run Try.prog wr = _ := fun _ => hrun
      have hw2 := heap_drew hal2
      have hil : w.heap.size + 1 < w2.heap.size := by rw [hw2]; exact (Array.getElem?_eq_some_iff.1 hi1).1
      obtain ⟨w3, hw3⟩ : ∃ w3, w3 = setBlock w2 (w.heap.size + 1) (.mapIter (some B) clk (seen.push e.born) clk) := ⟨_, rfl⟩
      have hi2 : w3.heap[w.heap.size + 1]? = some (.mapIter (some B) clk (seen.push e.born) clk) := by rw [hw3]; exact heap_set_self hil
      have hb2 : w3.heap[B]? = some (.map es clk) := by rw [hw3, heap_set_other (by omega), hw2]; exact hb1
      have ho2 : w3.heap[w.heap.size]? = some (.map os.toArray oclk) := by rw [hw3, heap_set_other (by omega), hw2]; exact ho1
      have hbl3 : Below w.heap.size w w3 := by rw [hw3]; exact below_set (below_drew hbl hal2) (by omega)
      rw [← hw3] at hnx
      have hen := run_entry_at (P := Try.prog) _ (w.heap.size + 1) B clk seen es clk e hi2 hb2 hmem.1 hst.2.1
      have hkey := hks e hmem.1
      -- the key is new
      have hkn : ∀ x ∈ os, x.key ≠ e.key := by
        intro x hx hxe
        have h1 : kvOf x ∈ done.map kvOf := by rw [← hos]; exact List.mem_map_of_mem hx
        obtain ⟨y, hy, hyx⟩ := List.mem_map.1 h1
        have hyk : y.key = e.key := by have := congrArg Prod.fst hyx; exact this.trans hxe
        have hnd : (((done ++ [e]) ++ (leftOf es (seen.push e.born)).toList).map (·.key)).Nodup := ((hpm'.map (·.key)).nodup_iff).2 hst.2.2
        rw [List.map_append, List.map_append] at hnd
        have := (List.nodup_append.1 (List.nodup_append.1 hnd).1).2.2 y.key (List.mem_map_of_mem hy) e.key (by simp)
        exact this hyk
      have hok : ∀ x ∈ os, MapKept.IsKey .string x.key := by
        intro x hx
        have h1 : kvOf x ∈ done.map kvOf := by rw [← hos]; exact List.mem_map_of_mem hx
        obtain ⟨y, hy, hyx⟩ := List.mem_map.1 h1
        have hyk : y.key = x.key := congrArg Prod.fst hyx
        rw [← hyk]
        exact hks y (hpm.mem_iff.1 (List.mem_append_left _ hy))
      have hf : (Instr.findKey 9 e.key os).run Try.prog w3 = .ok none w3 := MapKept.run_findKey Try.underlying9 (find_fresh rfl hkey hok hkn)
      have hgo := MapKept.run_getObj_map (P := Try.prog) (es := os.toArray) (clock := oclk) ho2
      have hset := MapKept.run_setObj_map (P := Try.prog) (.map (os ++ [({ key := e.key, val := e.val, born := oclk } : MapEntry)]).toArray (oclk + 1)) ho2
      have hpush : os.toArray.push { key := e.key, val := e.val, born := oclk } = (os ++ [({ key := e.key, val := e.val, born := oclk } : MapEntry)]).toArray := by simp
      obtain ⟨w4, hw4⟩ : ∃ w4, w4 = setBlock w3 w.heap.size (.map (os ++ [({ key := e.key, val := e.val, born := oclk } : MapEntry)]).toArray (oclk + 1)) := ⟨_, rfl⟩
      have hmu : (Instr.mapUpdate 86 (.map (some w.heap.size)) e.key e.val).run Try.prog w3 = .ok () w4 := by
        simp only [Instr.mapUpdate, Sem.run_bind, run_underlying Try.underlying86, Result.andThen_ok, hgo, MapKept.run_checkKey Try.underlying9 hkey, hf, hpush]
        rw [hw4]
        exact hset
      have hl3 : w.heap.size < w3.heap.size := (Array.getElem?_eq_some_iff.1 ho2).1
      have hb4 : w4.heap[B]? = some (.map es clk) := by rw [hw4, heap_set_other (by omega)]; exact hb2
      have hi4 : w4.heap[w.heap.size + 1]? = some (.mapIter (some B) clk (seen.push e.born) clk) := by rw [hw4, heap_set_other (by omega)]; exact hi2
      have ho4 : w4.heap[w.heap.size]? = some (.map (os ++ [({ key := e.key, val := e.val, born := oclk } : MapEntry)]).toArray (oclk + 1)) := by rw [hw4]; exact heap_set_self hl3
      have hbl4 : Below w.heap.size w w4 := by rw [hw4]; exact below_set hbl3 (Nat.le_refl _)
      have hst4 : MapKept.Stamped (os ++ [({ key := e.key, val := e.val, born := oclk } : MapEntry)]).toArray (oclk + 1) := by
        have := MapKept.stamped_push hso (key := e.key) (val := e.val) (by simpa using hkn)
        simpa using this
      clear hrun hw3 hw4 hset hf hgo hpush
      go_wp2
      go_roundw
      case rel =>
        refine ⟨seen.push e.born, done ++ [e], os ++ [({ key := e.key, val := e.val, born := oclk } : MapEntry)], oclk + 1, hb4, hi4, ho4, hst4, hbl4, hpm', ?_⟩
        rw [List.map_append, List.map_append, hos]; rfl
      case measure =>
        have m1 : wr.iterSeen (w.heap.size + 1) = seen := by unfold World.iterSeen; rw [hi1]
        have m2 : w4.iterSeen (w.heap.size + 1) = seen.push e.born := by unfold World.iterSeen; rw [hi4]
        rw [m1, m2]
        exact left_shrinks es seen e he

set_option maxRecDepth 1000000 in
theorem equal_run : EqualsB Try.prog 94 22 9 := by
  intro w va vb x y hx hy
  go_enter Try.func94, Try.ntmps94
  go_wp2
  go_ret
  exact ⟨rfl, rfl⟩
end Go.Proofs
/- What the configuration needs: each function is looked at ahead; copies by the shelf's contracts; loops over maps; the chapter's examples, run. -/
set_option linter.unusedVariables false
namespace Go.Proofs
open Go.Lv Go.Shelf
def cbRen : Ren := ⟨fun k => if k = 4 then 57 else k, fun k => if k = 4 then 4 else if k = 22 then 22 else if k = 5 then 5 else k, fun x => x⟩
theorem cbLays : SlLaysK.n4 Try.prog cbRen where
  mixed := by kernel_rfl
  f4 := by show Try.prog.funcs[57]? = _; rw [Try.func57]; rfl
  t4 := Try.underlying4
  a4 := Try.isAgg4
  z4 := Try.sizeOf4
  v4 := Try.zeroValue4
  t22 := Try.underlying22
  a22 := Try.isAgg22
  z22 := Try.sizeOf22
  v22 := Try.zeroValue22
  t5 := Try.underlying5
  i5 := by kernel_rfl
def ceRen : Ren := ⟨fun k => if k = 41 then 58 else k, fun k => if k = 4 then 4 else if k = 22 then 37 else if k = 23 then 46 else k, fun x => x⟩
theorem ceLays : SlLaysE0.n41 Try.prog ceRen where
  mixed := by kernel_rfl
  f41 := ⟨_, rfl, by show Try.prog.funcs[58]? = _; rw [Try.func58]; rfl⟩
  t4 := Try.underlying4
  a4 := Try.isAgg4
  z4 := Try.sizeOf4
  v4 := Try.zeroValue4
  t22 := Try.underlying37
  a22 := Try.isAgg37
  z22 := Try.sizeOf37
  v22 := Try.zeroValue37
def ccRen : Ren := ⟨fun k => if k = 41 then 69 else k, fun k => if k = 4 then 4 else if k = 22 then 87 else if k = 23 then 98 else k, fun x => x⟩
theorem ccLays : SlLaysE0.n41 Try.prog ccRen where
  mixed := by kernel_rfl
  f41 := ⟨_, rfl, by show Try.prog.funcs[69]? = _; rw [Try.func69]; rfl⟩
  t4 := Try.underlying4
  a4 := Try.isAgg4
  z4 := Try.sizeOf4
  v4 := Try.zeroValue4
  t22 := Try.underlying87
  a22 := Try.isAgg87
  z22 := Try.sizeOf87
  v22 := Try.zeroValue87
theorem chk_all0 : (okL.all fun f => chkFn Try.prog cfg0 f) = true := by kernel_rfl
theorem chk_all : (okL.all fun f => chkFn Try.prog cfg f) = true := by kernel_rfl
theorem ext0 : ∀ g s, cfg0.ext g = some s → ∀ args H r H', s args H = some (r, H') → CallOK Try.prog (cfg0.sig g) g args H r H' := by
  intro g s hs args H r H' h
  by_cases h1 : g = 57
  · subst h1
    injection hs with hs; subst hs
    exact cloneB_ok cbLays h
  by_cases h2 : g = 58
  · subst h2
    injection hs with hs; subst hs
    exact cloneT_ok (n := 4) (by_ := 32) (z := .agg #[.int .i64 0, .int .i64 0, .int .i64 0, .int .i64 0]) ceLays (by kernel_rfl) rfl h
  by_cases h3 : g = 69
  · subst h3
    injection hs with hs; subst hs
    exact cloneT_ok (n := 5) (by_ := 64) (z := .agg #[.string ByteArray.empty, .string ByteArray.empty, .slice none 0 0, .bool false, .bool false]) ccLays (by kernel_rfl) rfl h
  by_cases h4 : g = 63
  · subst h4
    injection hs with hs; subst hs
    exact copiedT_ok copied_run h
  by_cases h5 : g = 37
  · subst h5
    injection hs with hs; subst hs
    exact usedT_ok used_run h
  by_cases h6 : g = 94
  · subst h6
    injection hs with hs; subst hs
    exact equalT_ok Try.underlying22 Try.underlying5 Try.underlying9 equal_run h
  · simp [cfg0, h1, h2, h3, h4, h5, h6] at hs
theorem extc0 : ∀ g, (cfg0.ext g).isSome = true → Callable Try.prog g := by
  intro g h
  by_cases h1 : g = 57
  · subst h1; exact ⟨_, Try.func57, rfl, by decide⟩
  by_cases h2 : g = 58
  · subst h2; exact ⟨_, Try.func58, rfl, by decide⟩
  by_cases h3 : g = 69
  · subst h3; exact ⟨_, Try.func69, rfl, by decide⟩
  by_cases h4 : g = 63
  · subst h4; exact ⟨_, Try.func63, rfl, by decide⟩
  by_cases h5 : g = 37
  · subst h5; exact ⟨_, Try.func37, rfl, by decide⟩
  by_cases h6 : g = 94
  · subst h6; exact ⟨_, Try.func94, rfl, by decide⟩
  · simp [cfg0, h1, h2, h3, h4, h5, h6] at h
theorem world0 : World0 Try.prog cfg0 where
  ext := ext0
  extc := extc0
  chk := by
    intro g _ h
    exact List.all_eq_true.1 chk_all0 g (by simpa [cfg0] using h)
  dyn := by intro g h; cases h
  mixed := by kernel_rfl
theorem run23 : ((lcallX Try.prog cfg0 400 11 [] []).map fun r => eqA 2 r.1 (.b true)) = some true := by kernel_rfl
theorem closed_cases {g : Nat} (h : closedL.contains g = true) : g = 11 := by
  simpa [closedL] using h
theorem world : World0 Try.prog cfg where
  ext := by
    intro g s hs args H r H' h
    by_cases hc : closedL.contains g = true
    · have e : cfg.ext g = some fun args H => closedT true H args := by
        show (if closedL.contains g = true then _ else _) = _
        rw [if_pos hc]
      rw [e] at hs
      injection hs with hs; subst hs
      obtain rfl := closed_cases hc
      exact closedT_ok world0 rfl run23 h
    · have e : cfg.ext g = cfg0.ext g := by
        show (if closedL.contains g = true then _ else _) = _
        rw [if_neg hc]
      rw [e] at hs
      exact ext0 g s hs args H r H' h
  extc := by
    intro g h
    by_cases hc : closedL.contains g = true
    · obtain rfl := closed_cases hc
      exact ⟨_, Try.func11, rfl, by decide⟩
    · have e : cfg.ext g = cfg0.ext g := by
        show (if closedL.contains g = true then _ else _) = _
        rw [if_neg hc]
      rw [e] at h
      exact extc0 g h
  chk := by
    intro g _ h
    exact List.all_eq_true.1 chk_all g (by simpa [cfg, cfg0] using h)
  dyn := by intro g h; cases h
  mixed := by kernel_rfl
/-- The chapters' examples hold. -/
theorem first23_w {H : Heap} : WF Try.prog cfg 11 [] H (fun r H' => r = .b true ∧ H' = H) := WF.ext (g := fun args H => closedT true H args) rfl (r := .b true) (H' := H) rfl ⟨rfl, rfl⟩
end Go.Proofs
/- Walks: the document's bytes. -/
set_option linter.unusedVariables false
set_option linter.unusedSimpArgs false
namespace Go.Proofs
open Go.Lv
namespace Jn
variable {H : Heap}

theorem rBytes_w (a b : List UInt8) {x y : AV} (hx : x = .sl (a.map byteA)) (hy : y = .sl (b.map byteA)) : WF Try.prog cfg 17 [x, y] H (fun r H' => r = .b (decide (a = b)) ∧ H' = H) := by
  subst hx hy
  have hm : ∀ d, cfg.muF 17 d = (false) := fun _ => rfl
  have hz : ∀ d, cfg.fzF 17 d = (false) := fun _ => rfl
  have ht : ∀ d, cfg.tkF 17 d = (false) := fun _ => rfl
  have hr_ : ∀ g, cfg.raw g = (g == 58 || g == 69) := fun _ => rfl
  refine rF_fn rfl rfl Try.func17 rfl ?_
  repeat' (first | simp (disch := first | omega | assumption | decide) only [go_sem, hm, hz, ht, hr_] | refine ifP_in (fun _ => ?_) (fun _ => ?_))

theorem rCopy_w (l : List UInt8) (hl : l.length < 100000000) : WF Try.prog cfg 12 [.sl (l.map byteA)] H (fun r H' => r = .sl (l.map byteA) ∧ H' = H) := by
  have hm : ∀ d, cfg.muF 12 d = (false) := fun _ => rfl
  have hz : ∀ d, cfg.fzF 12 d = (false) := fun _ => rfl
  have ht : ∀ d, cfg.tkF 12 d = (false) := fun _ => rfl
  have hr_ : ∀ g, cfg.raw g = (g == 58 || g == 69) := fun _ => rfl
  refine rF_fn rfl rfl Try.func12 rfl ?_
  repeat' (first | simp (disch := first | omega | assumption | decide) only [go_sem, hm, hz, ht, hr_] | refine ifP_in (fun _ => ?_) (fun _ => ?_))

theorem rCrc_w (l : List UInt8) (hl : l.length < 100000000) : WF Try.prog cfg 52 [.sl (l.map byteA)] H (fun r H' => r = .v (.int .u32 ((Jr.crc l).toNat : Int)) ∧ H' = H) := by
  have hm : ∀ d, cfg.muF 52 d = (false) := fun _ => rfl
  have hz : ∀ d, cfg.fzF 52 d = (false) := fun _ => rfl
  have ht : ∀ d, cfg.tkF 52 d = (false) := fun _ => rfl
  have hr_ : ∀ g, cfg.raw g = (g == 58 || g == 69) := fun _ => rfl
  refine rF_fn rfl rfl Try.func52 rfl ?_
  repeat' (first | simp (disch := first | omega | assumption | decide) only [go_sem, hm, hz, ht, hr_] | refine ifP_in (fun _ => ?_) (fun _ => ?_))
  refine rL_loop (σ := Nat) (fun i e H' => H' = H ∧ e 0 = .sl (l.map byteA) ∧ e 4 = .i i ∧ i ≤ l.length ∧ e 3 = .v (.int .u32 (((l.take i).foldl Jr.crcB 4294967295).toNat : Int))) (fun i => l.length - i) 0 ?_ ?_
  · refine ⟨rfl, ?_, ?_, by omega, ?_⟩
    all_goals first | (simp (disch := first | assumption | omega) only [go_sem]; done) | (simp (disch := first | assumption | omega) only [go_sem]; rfl)
  · rintro i e H' ⟨rfl, g0, g4, i1, g3⟩
    repeat' (first | simp (disch := first | omega | assumption | decide) only [go_sem, hm, hz, ht, hr_, g0, g4, g3, bin_xor_ub] | refine ifP_in (fun _ => ?_) (fun _ => ?_))
    · have hi : i < l.length := by omega
      generalize hs : (l.take i).foldl Jr.crcB 4294967295 ^^^ (ix l (i : Int)).toUInt32 = s
      refine rL_loop (σ := Nat) (fun k e H'' => H'' = H' ∧ e 0 = .sl (l.map byteA) ∧ e 4 = .i i ∧ e 5 = .i k ∧ k ≤ 8 ∧ e 3 = .v (.int .u32 ((Jr.bitsN k s).toNat : Int))) (fun k => 8 - k) 0 ?_ ?_
      · refine ⟨rfl, ?_, ?_, ?_, by omega, ?_⟩
        all_goals first | (simp (disch := first | assumption | omega) only [go_sem, g0, g4, bin_xor_ub]; done) | (simp (disch := first | assumption | omega) only [go_sem, g0, g4]; rfl) | (rw [← hs]; simp (disch := first | assumption | omega) only [go_sem]; rfl)
      · rintro k e H'' ⟨rfl, g0, g4, g5, k1, g3⟩
        repeat' (first | simp (disch := first | omega | assumption | decide) only [go_sem, hm, hz, ht, hr_, g0, g4, g5, g3, bin_and_one, bin_shr_one, bin_xor_poly] | refine ifP_in (fun _ => ?_) (fun _ => ?_))
        · rename_i hlow
          have hl1 : Jr.bitsN k s &&& 1 = 1 := UInt32.toNat_inj.1 (by show _ = 1; omega)
          refine ⟨k + 1, ⟨by congr 2, by omega, ?_⟩, by omega⟩
          rw [Jr.bitsN, Jr.bit, if_pos hl1]
        · rename_i hlow
          have hl1 : ¬ Jr.bitsN k s &&& 1 = 1 := fun h => hlow (by rw [h]; rfl)
          refine ⟨k + 1, ⟨by congr 2, by omega, ?_⟩, by omega⟩
          rw [Jr.bitsN, Jr.bit, if_neg hl1]
        · have hk : k = 8 := by omega
          subst hk
          refine ⟨i + 1, ⟨by congr 2, by omega, ?_⟩, by omega⟩
          have hx : ix l (i : Int) = l[i] := by simp [ix, List.getD_eq_getElem?_getD, List.getElem?_eq_getElem hi]
          rw [List.take_succ_eq_append_getElem hi, List.foldl_append, ← hs, hx]
          rfl
    · have hk : i = l.length := by omega
      subst hk
      rw [List.take_length]
      repeat' (first | simp (disch := first | omega | assumption | decide) only [go_sem, hm, hz, ht, hr_, un1_xor_u32] | refine ifP_in (fun _ => ?_) (fun _ => ?_))
      rfl

theorem rPut_w (n width : Nat) (h1 : 1 ≤ width) (h2 : width ≤ 6) (h3 : n < 2 ^ (8 * width)) (h4 : n < 281474976710656) : WF Try.prog cfg 92 [.i n, .i width] H (fun r H' => r = .tup [.sl ((Jr.put n width).map byteA), .i 0] ∧ H' = H) := by
  have hm : ∀ d, cfg.muF 92 d = (false) := fun _ => rfl
  have hz : ∀ d, cfg.fzF 92 d = (false) := fun _ => rfl
  have ht : ∀ d, cfg.tkF 92 d = (false) := fun _ => rfl
  have hr_ : ∀ g, cfg.raw g = (g == 58 || g == 69) := fun _ => rfl
  refine rF_fn rfl rfl Try.func92 rfl ?_
  have hq0 : (n : Int) / 2 ^ (8 * (width : Int)).toNat = 0 := by
    have e : (8 * (width : Int)).toNat = 8 * width := by omega
    rw [e]
    have : ((n / 2 ^ (8 * width) : Nat) : Int) = 0 := by rw [Nat.div_eq_of_lt h3]; rfl
    rw [← this]; push_cast; rfl
  repeat' (first | simp (disch := first | omega | assumption | decide) only [go_sem, hm, hz, ht, hr_, hq0] | refine ifP_in (fun _ => ?_) (fun _ => ?_))
  refine rL_loop (σ := Nat) (fun i e H' => H' = H ∧ e 0 = .i n ∧ e 1 = .i width ∧ e 7 = .i ((width : Int) - 1 - i) ∧ i ≤ width ∧ e 6 = .sl (((Jr.put n width).take i).map byteA)) (fun i => width - i) 0 ?_ ?_
  · refine ⟨rfl, ?_, ?_, ?_, by omega, ?_⟩
    all_goals first | (simp (disch := first | assumption | omega) only [go_sem]; done) | (simp (disch := first | assumption | omega) only [go_sem]; rfl) | (simp (disch := first | assumption | omega) only [go_sem]; congr 2; omega)
  · rintro i e H' ⟨rfl, g0, g1, g7, i1, g6⟩
    by_cases hi : i < width
    · have hb : AV.v (.int .u8 (IntKind.u8.wrap ((n : Int) / 2 ^ (8 * ((width : Int) - 1 - i)).toNat))) = byteA (Jr.putAt n width i) := by
        have e : (8 * ((width : Int) - 1 - i)).toNat = 8 * (width - 1 - i) := by omega
        rw [e]
        exact wrap_put _ _
      have hl : ((Jr.put n width).take i).length = i := by rw [List.length_take, Jr.put_len]; omega
      repeat' (first | simp (disch := first | omega | assumption | decide) only [go_sem, hm, hz, ht, hr_, g0, g1, g7, g6, hb] | refine ifP_in (fun _ => ?_) (fun _ => ?_))
      refine ⟨i + 1, ⟨by congr 2; omega, by omega, ?_⟩, by omega⟩
      have hil : i < (Jr.put n width).length := by rw [Jr.put_len]; exact hi
      rw [List.take_succ_eq_append_getElem hil]
      simp [Jr.put]
    · have : i = width := by omega
      subst this
      repeat' (first | simp (disch := first | omega | assumption | decide) only [go_sem, hm, hz, ht, hr_, g0, g1, g7, g6] | refine ifP_in (fun _ => ?_) (fun _ => ?_))
      rw [List.take_of_length_le (by rw [Jr.put_len]; omega)]

theorem rNum_w (n width : Nat) (h1 : 1 ≤ width) (h2 : width ≤ 6) (h3 : n < 2 ^ (8 * width)) (h4 : n < 281474976710656) : WF Try.prog cfg 51 [.i n, .i width] H (fun r H' => r = .sl ((Jr.put n width).map byteA) ∧ H' = H) := by
  have hm : ∀ d, cfg.muF 51 d = (false) := fun _ => rfl
  have hz : ∀ d, cfg.fzF 51 d = (false) := fun _ => rfl
  have ht : ∀ d, cfg.tkF 51 d = (false) := fun _ => rfl
  have hr_ : ∀ g, cfg.raw g = (g == 58 || g == 69) := fun _ => rfl
  refine rF_fn rfl rfl Try.func51 rfl ?_
  repeat' (first | simp (disch := first | omega | assumption | decide) only [go_sem, hm, hz, ht, hr_] | refine ifP_in (fun _ => ?_) (fun _ => ?_))
  refine rF_use (rPut_w n width h1 h2 h3 h4) ?_
  rintro _ H1 ⟨rfl, rfl⟩
  repeat' (first | simp (disch := first | omega | assumption | decide) only [go_sem, hm, hz, ht, hr_] | refine ifP_in (fun _ => ?_) (fun _ => ?_))

theorem rFrame_w (p : List UInt8) (hp : p.length < 1000000) : WF Try.prog cfg 14 [.sl (p.map byteA)] H (fun r H' => r = (if 60000 < p.length then .tup [.sl [], .i 3] else .tup [.sl ((Jr.frame p).map byteA), .i 0]) ∧ H' = H) := by
  have hm : ∀ d, cfg.muF 14 d = (false) := fun _ => rfl
  have hz : ∀ d, cfg.fzF 14 d = (false) := fun _ => rfl
  have ht : ∀ d, cfg.tkF 14 d = (false) := fun _ => rfl
  have hr_ : ∀ g, cfg.raw g = (g == 58 || g == 69) := fun _ => rfl
  refine rF_fn rfl rfl Try.func14 rfl ?_
  repeat' (first | simp (disch := first | omega | assumption | decide) only [go_sem, hm, hz, ht, hr_] | refine ifP_in (fun _ => ?_) (fun _ => ?_))
  · rw [if_pos (by omega)]
  · refine rF_use (rNum_w p.length 2 (by omega) (by omega) (by omega) (by omega)) ?_
    rintro _ H1 ⟨rfl, rfl⟩
    have l1 := Jr.put_len p.length 2
    repeat' (first | simp (disch := first | omega | assumption | decide) only [go_sem, hm, hz, ht, hr_] | refine ifP_in (fun _ => ?_) (fun _ => ?_))
    refine rF_use (rCopy_w (Jr.put p.length 2) (by omega)) ?_
    rintro _ H2 ⟨rfl, rfl⟩
    repeat' (first | simp (disch := first | omega | assumption | decide) only [go_sem, hm, hz, ht, hr_] | refine ifP_in (fun _ => ?_) (fun _ => ?_))
    refine rF_use (rCrc_w (Jr.put p.length 2 ++ p) (by simp; omega)) ?_
    rintro _ H3 ⟨rfl, rfl⟩
    have hc := u32_toNat_lt (Jr.crc (Jr.put p.length 2 ++ p))
    generalize hcr : (Jr.crc (Jr.put p.length 2 ++ p)).toNat = c at hc
    repeat' (first | simp (disch := first | omega | assumption | decide) only [go_sem, hm, hz, ht, hr_] | refine ifP_in (fun _ => ?_) (fun _ => ?_))
    refine rF_use (rNum_w c 4 (by omega) (by omega) (by omega) (by omega)) ?_
    rintro _ H4 ⟨rfl, rfl⟩
    have l2 := Jr.put_len c 4
    have l3 : (Jr.put p.length 2 ++ Jr.put c 4).length = 6 := by rw [List.length_append, l1, l2]
    repeat' (first | simp (disch := first | omega | assumption | decide) only [go_sem, hm, hz, ht, hr_] | refine ifP_in (fun _ => ?_) (fun _ => ?_))
    rw [if_neg (by omega), Jr.frame, hcr]
end Jn
end Go.Proofs
/- Walks: lists of bytes, the document's reading. -/
set_option linter.unusedVariables false
set_option linter.unusedSimpArgs false
namespace Go.Proofs
open Go.Lv
namespace Jn
variable {H : Heap}

theorem cells_bytes {l : List UInt8} : AV.cells (AV.bytes l) = [AV.bytes l] := rfl
theorem rLists_w (a b : List (List UInt8)) (ha : a.length < 1000000) {x y : AV} (hx : x = .sl (a.map AV.bytes)) (hy : y = .sl (b.map AV.bytes)) : WF Try.prog cfg 18 [x, y] H (fun r H' => r = .b (decide (a = b)) ∧ H' = H) := by
  subst hx hy
  have hm : ∀ d, cfg.muF 18 d = (false) := fun _ => rfl
  have hz : ∀ d, cfg.fzF 18 d = (false) := fun _ => rfl
  have ht : ∀ d, cfg.tkF 18 d = (false) := fun _ => rfl
  have hr_ : ∀ g, cfg.raw g = (g == 58 || g == 69) := fun _ => rfl
  refine rF_fn rfl rfl Try.func18 rfl ?_
  repeat' (first | simp (disch := first | omega | assumption | decide) only [go_sem, hm, hz, ht, hr_] | refine ifP_in (fun _ => ?_) (fun _ => ?_))
  · rename_i hne
    have : ¬ a = b := fun h => hne (by rw [h])
    simp [this]
  · rename_i heq
    have heq : a.length = b.length := by omega
    refine rL_loop (σ := Nat) (fun i e H' => H' = H ∧ e 0 = .sl (a.map AV.bytes) ∧ e 1 = .sl (b.map AV.bytes) ∧ e 5 = .i i ∧ i ≤ a.length ∧ a.take i = b.take i) (fun i => a.length - i) 0 ?_ ?_
    · refine ⟨rfl, ?_, ?_, ?_, by omega, by simp⟩
      all_goals first | (simp (disch := first | assumption | omega) only [go_sem]; done) | (simp (disch := first | assumption | omega) only [go_sem]; rfl)
    · rintro i e H' ⟨rfl, g0, g1, g5, i1, i2⟩
      repeat' (first | simp (disch := first | omega | assumption | decide) only [go_sem, hm, hz, ht, hr_, g0, g1, g5, cells_bytes] | refine ifP_in (fun _ => ?_) (fun _ => ?_))
      · refine rF_use (rBytes_w (ix a (i : Int)) (ix b (i : Int)) rfl rfl) ?_
        rintro _ H1 ⟨rfl, rfl⟩
        have hax : ix a (i : Int) = a[i]'(by omega) := by simp [ix, List.getD_eq_getElem?_getD, List.getElem?_eq_getElem (show i < a.length by omega)]
        have hbx : ix b (i : Int) = b[i]'(by omega) := by simp [ix, List.getD_eq_getElem?_getD, List.getElem?_eq_getElem (show i < b.length by omega)]
        repeat' (first | simp (disch := first | omega | assumption | decide) only [go_sem, hm, hz, ht, hr_, g0, g1, g5, cells_bytes] | refine ifP_in (fun _ => ?_) (fun _ => ?_))
        · rename_i hne
          rw [hax, hbx] at hne
          have : ¬ a = b := by rintro rfl; exact hne rfl
          simp [this]
        · rename_i he
          rw [hax, hbx] at he
          refine ⟨i + 1, ⟨by congr 2, by omega, ?_⟩, by omega⟩
          have he' : a[i]'(by omega) = b[i]'(by omega) := by first | exact he | exact Classical.not_not.1 he
          rw [List.take_succ_eq_append_getElem (by omega), List.take_succ_eq_append_getElem (by omega), i2, he']
      · have : i = a.length := by omega
        subst this
        rw [List.take_length, heq, List.take_length] at i2
        simp [i2]
end Jn
end Go.Proofs
/- Walks: the document's reading. -/
set_option linter.unusedVariables false
set_option linter.unusedSimpArgs false
namespace Go.Proofs
open Go.Lv
namespace Jn
variable {H : Heap}

theorem rRead_w (l : List UInt8) (hl : l.length = 2) : WF Try.prog cfg 54 [.sl (l.map byteA)] H (fun r H' => r = .i (Jr.get l) ∧ H' = H) := by
  have hm : ∀ d, cfg.muF 54 d = (false) := fun _ => rfl
  have hz : ∀ d, cfg.fzF 54 d = (false) := fun _ => rfl
  have ht : ∀ d, cfg.tkF 54 d = (false) := fun _ => rfl
  have hr_ : ∀ g, cfg.raw g = (g == 58 || g == 69) := fun _ => rfl
  refine rF_fn rfl rfl Try.func54 rfl ?_
  have hget : ∀ i, (h : i < l.length) → Jr.get (l.take (i + 1)) = Jr.get (l.take i) * 256 + (l.getD i 0).toNat := by
    intro i h
    rw [List.take_succ_eq_append_getElem h, Jr.get, List.foldl_append]
    simp [Jr.get, List.getD_eq_getElem?_getD, h]
  have hbnd : ∀ i, i < 2 → Jr.get (l.take i) < 1099511627776 := by
    intro i hi
    match i, hi with
    | 0, _ => simp [Jr.get]
    | 1, _ =>
      cases l with
      | nil => simp [Jr.get]
      | cons b l => have := b.toNat_lt; simp [Jr.get]; omega
  repeat' (first | simp (disch := first | omega | assumption | decide) only [go_sem, hm, hz, ht, hr_] | refine ifP_in (fun _ => ?_) (fun _ => ?_))
  refine rL_loop (σ := Nat) (fun i e H' => H' = H ∧ e 0 = .sl (l.map byteA) ∧ e 4 = .i i ∧ i ≤ 2 ∧ e 3 = .i (Jr.get (l.take i))) (fun i => 2 - i) 0 ?_ ?_
  · refine ⟨rfl, ?_, ?_, by omega, ?_⟩
    all_goals first | (simp (disch := first | assumption | omega) only [go_sem]; done) | (simp (disch := first | assumption | omega) only [go_sem]; rfl)
  · rintro i e H' ⟨rfl, g0, g4, i1, g3⟩
    by_cases hi : i < 2
    · have hb := hbnd i hi
      have hg := hget i (by omega)
      have hix : ix l (i : Int) = l.getD i 0 := by simp [ix]; rfl
      repeat' (first | simp (disch := first | omega | assumption | decide) only [go_sem, hm, hz, ht, hr_, g0, g4, g3, or_byte hb, hix] | refine ifP_in (fun _ => ?_) (fun _ => ?_))
      refine ⟨i + 1, ⟨by congr 2, by omega, ?_⟩, by omega⟩
      rw [hg]
    · have : i = 2 := by omega
      subst this
      repeat' (first | simp (disch := first | omega | assumption | decide) only [go_sem, hm, hz, ht, hr_, g0, g4, g3] | refine ifP_in (fun _ => ?_) (fun _ => ?_))
      rw [List.take_of_length_le (by omega)]

theorem next_short (b : List UInt8) (h : b.length < 6) : (Jr.next b).2 = false := by
  unfold Jr.next
  split
  · rfl
  · rw [if_pos (.inr (by omega))]
theorem append_bytes {P : Program} {xs : List (List UInt8)} {y : List UInt8} {el el' : TypeId} [h : SizeIs P el 1] :
    appendD P (some (.slice el)) (some (.slice el')) (.sl (xs.map AV.bytes)) (.sl [.sl (y.map byteA)]) = roomD 1 (sizeT P el) (bytesT P el) (zeroA P el) (xs.length + 1) (.sl ((xs ++ [y]).map AV.bytes)) :=
  append_one (f := AV.bytes) (y := y)
theorem rScan_w (b : List UInt8) (hb : b.length < 1000000) : WF Try.prog cfg 16 [.sl (b.map byteA)] H (fun r H' => r = .tup [.sl ((Jr.scan b).1.map AV.bytes), .i (Jr.scan b).2] ∧ H' = H) := by
  have hm : ∀ d, cfg.muF 16 d = (false) := fun _ => rfl
  have hz : ∀ d, cfg.fzF 16 d = (false) := fun _ => rfl
  have ht : ∀ d, cfg.tkF 16 d = (false) := fun _ => rfl
  have hr_ : ∀ g, cfg.raw g = (g == 58 || g == 69) := fun _ => rfl
  refine rF_fn rfl rfl Try.func16 rfl ?_
  repeat' (first | simp (disch := first | omega | assumption | decide) only [go_sem, hm, hz, ht, hr_] | refine ifP_in (fun _ => ?_) (fun _ => ?_))
  refine rL_loop (σ := Nat × Nat × List (List UInt8)) (fun z e H' => H' = H ∧ e 0 = .sl (b.map byteA) ∧ e 5 = .i z.2.1 ∧ z.2.1 ≤ b.length ∧ e 4 = .sl (z.2.2.map AV.bytes) ∧ z.2.2.length ≤ z.2.1 ∧ b.length + 1 ≤ z.1 + z.2.1 ∧ Jr.scan b = (z.2.2 ++ (Jr.scanF z.1 (b.drop z.2.1)).1, z.2.1 + (Jr.scanF z.1 (b.drop z.2.1)).2)) (fun z => b.length - z.2.1) (b.length + 1, 0, []) ?_ ?_
  · refine ⟨rfl, ?_, ?_, by simp, ?_, by simp, by simp, by simp [Jr.scan]⟩
    all_goals first | (simp (disch := first | assumption | omega) only [go_sem]; done) | (simp (disch := first | assumption | omega) only [go_sem]; rfl)
  · rintro ⟨k, at_, l⟩ e K ⟨rfl, g0, g5, i1, g4, i2, i3, i4⟩
    simp only at g0 g5 i1 g4 i2 i3 i4
    obtain ⟨k, rfl⟩ : ∃ k', k = k' + 1 := ⟨k - 1, by omega⟩
    rw [Jr.scanF] at i4
    by_cases h6 : 6 ≤ b.length - at_
    · repeat' (first | simp (disch := first | omega | assumption | decide) only [go_sem, hm, hz, ht, hr_, g0, g4, g5] | refine ifP_in (fun _ => ?_) (fun _ => ?_))
      have hrl : (b.drop at_).length = b.length - at_ := by simp
      have e2 : (b.take ((at_ : Int) + 2).toNat).drop at_ = (b.drop at_).take 2 := by rw [show ((at_ : Int) + 2).toNat = at_ + 2 by omega, List.drop_take]; congr 1; omega
      rw [e2]
      refine rF_use (rRead_w ((b.drop at_).take 2) (by rw [List.length_take]; omega)) ?_
      rintro _ K1 ⟨rfl, rfl⟩
      have hlt := get2_lt (b.drop at_)
      have hnx : Jr.next (b.drop at_) = if 60000 < Jr.get ((b.drop at_).take 2) ∨ (b.drop at_).length < 6 + Jr.get ((b.drop at_).take 2) then ([], false) else
          (((b.drop at_).drop 6).take (Jr.get ((b.drop at_).take 2)), decide (Jr.frame (((b.drop at_).drop 6).take (Jr.get ((b.drop at_).take 2))) = (b.drop at_).take (6 + Jr.get ((b.drop at_).take 2)))) := by
        rw [Jr.next, if_neg (by omega)]
      rw [if_neg (by omega)] at i4
      generalize hn : Jr.get ((b.drop at_).take 2) = n at *
      by_cases hbad : 60000 < n ∨ (b.drop at_).length < 6 + n
      · rw [if_pos hbad] at hnx
        rw [hnx] at i4
        simp only [Bool.false_eq_true, if_false, List.append_nil, Nat.add_zero] at i4
        rw [i4]
        by_cases hb1 : 60000 < n
        · repeat' (first | simp (disch := first | omega | assumption | decide) only [go_sem, hm, hz, ht, hr_, g0, g4, g5] | refine ifP_in (fun _ => ?_) (fun _ => ?_))
        · repeat' (first | simp (disch := first | omega | assumption | decide) only [go_sem, hm, hz, ht, hr_, g0, g4, g5] | refine ifP_in (fun _ => ?_) (fun _ => ?_))
      · rw [if_neg hbad] at hnx
        rw [hrl] at hbad
        have e3 : (b.take ((at_ : Int) + 6 + n).toNat).drop ((at_ : Int) + 6).toNat = ((b.drop at_).drop 6).take n := by
          rw [show ((at_ : Int) + 6 + n).toNat = at_ + 6 + n by omega, show ((at_ : Int) + 6).toNat = at_ + 6 by omega, List.drop_take, List.drop_drop]; congr 1; omega
        have e4 : (b.take ((at_ : Int) + 6 + n).toNat).drop at_ = (b.drop at_).take (6 + n) := by
          rw [show ((at_ : Int) + 6 + n).toNat = at_ + 6 + n by omega, List.drop_take]; congr 1; omega
        have hpl : (((b.drop at_).drop 6).take n).length = n := by simp; omega
        generalize hp : ((b.drop at_).drop 6).take n = p at *
        repeat' (first | simp (disch := first | omega | assumption | decide) only [go_sem, hm, hz, ht, hr_, g0, g4, g5] | refine ifP_in (fun _ => ?_) (fun _ => ?_))
        rw [e3]
        refine rF_use (rCopy_w p (by omega)) ?_
        rintro _ K2 ⟨rfl, rfl⟩
        repeat' (first | simp (disch := first | omega | assumption | decide) only [go_sem, hm, hz, ht, hr_, g0, g4, g5] | refine ifP_in (fun _ => ?_) (fun _ => ?_))
        refine rF_use (rFrame_w p (by omega)) ?_
        rintro _ K3 ⟨rfl, rfl⟩
        rw [if_neg (by omega)]
        repeat' (first | simp (disch := first | omega | assumption | decide) only [go_sem, hm, hz, ht, hr_, g0, g4, g5] | refine ifP_in (fun _ => ?_) (fun _ => ?_))
        rw [e4]
        refine rF_use (rBytes_w (Jr.frame p) ((b.drop at_).take (6 + n)) rfl rfl) ?_
        rintro _ K4 ⟨rfl, rfl⟩
        rw [hnx] at i4
        simp only [decide_eq_true_eq] at i4
        by_cases hf : Jr.frame p = (b.drop at_).take (6 + n)
        · rw [if_pos hf] at i4
          repeat' (first | simp (disch := first | omega | assumption | decide) only [go_sem, hm, hz, ht, hr_, g0, g4, g5, append_bytes] | refine ifP_in (fun _ => ?_) (fun _ => ?_))
          · exact absurd hf (by assumption)
          refine ⟨(k, at_ + (6 + n), l ++ [p]), ⟨?_, ?_, rfl, ?_, ?_, ?_⟩, ?_⟩
          · simp only; congr 2; omega
          · simp only; omega
          · simp; omega
          · simp only; omega
          · simp only
            rw [i4, List.drop_drop, hpl]
            simp [Nat.add_assoc]
          · simp only; omega
        · rw [if_neg hf] at i4
          simp only [List.append_nil, Nat.add_zero] at i4
          rw [i4]
          repeat' (first | simp (disch := first | omega | assumption | decide) only [go_sem, hm, hz, ht, hr_, g0, g4, g5] | refine ifP_in (fun _ => ?_) (fun _ => ?_))
    · have hz0 : Jr.scan b = (l, at_) := by
        rw [i4]
        by_cases h0 : (b.drop at_).length = 0
        · rw [if_pos h0]; simp
        · rw [if_neg h0, if_neg (by rw [next_short _ (by simp; omega)]; simp)]; simp
      repeat' (first | simp (disch := first | omega | assumption | decide) only [go_sem, hm, hz, ht, hr_, g0, g4, g5] | refine ifP_in (fun _ => ?_) (fun _ => ?_))
      rw [hz0]
end Jn
end Go.Proofs
/- Walks: texts that are few and short. -/
set_option linter.unusedVariables false
set_option linter.unusedSimpArgs false
namespace Go.Proofs
open Go.Lv
namespace Jn
variable {H : Heap}

def total (l : List (List UInt8)) : Nat := (l.map List.length).sum
theorem total_snoc (l : List (List UInt8)) (i : Nat) (h : i < l.length) : total (l.take (i + 1)) = total (l.take i) + (l[i]).length := by
  rw [List.take_succ_eq_append_getElem h, total, List.map_append, List.sum_append]
  simp [total]
theorem lenD_bytes {el : TypeId} {l : List UInt8} : lenD (some (.slice el)) (AV.bytes l) = some (.v (.int .i64 l.length)) := by simp [lenD, AV.bytes]
theorem ix_get {α : Type} [Inhabited α] {l : List α} {i : Nat} (h : i < l.length) : ix l (i : Int) = l[i] := by
  simp [ix, List.getD_eq_getElem?_getD, List.getElem?_eq_getElem h]

theorem texts_w (l : List (List UInt8)) (hl : l.length ≤ 140737488355328) (hs : ∀ p ∈ l, p.length ≤ 140737488355328) : WF Try.prog cfg 19 [.sl (l.map AV.bytes)] H (fun r H' => ∃ t, r = .b t ∧ H' = H ∧ (t = true → l.length ≤ 60 ∧ total l ≤ 70000)) := by
  have hm : ∀ d, cfg.muF 19 d = (false) := fun _ => rfl
  have hz : ∀ d, cfg.fzF 19 d = (false) := fun _ => rfl
  have ht : ∀ d, cfg.tkF 19 d = (false) := fun _ => rfl
  have hr_ : ∀ g, cfg.raw g = (g == 58 || g == 69) := fun _ => rfl
  refine rF_fn rfl rfl Try.func19 rfl ?_
  repeat' (first | simp (disch := first | omega | assumption | decide) only [go_sem, hm, hz, ht, hr_] | refine ifP_in (fun _ => ?_) (fun _ => ?_))
  refine rL_loop (σ := Nat × Nat) (fun z e H' => H' = H ∧ e 0 = .sl (l.map AV.bytes) ∧ e 4 = .i z.1 ∧ z.1 ≤ l.length ∧ z.1 ≤ 60 ∧ e 3 = .i z.2 ∧ z.2 ≤ 280000 ∧ (z.2 ≤ 70000 → total (l.take z.1) ≤ z.2)) (fun z => 60 - z.1) (0, 0) ?_ ?_
  · refine ⟨rfl, ?_, ?_, by simp, by simp, ?_, by simp, by simp [total]⟩
    all_goals first | (simp (disch := first | assumption | omega) only [go_sem]; done) | (simp (disch := first | assumption | omega) only [go_sem]; rfl)
  · rintro ⟨i, n⟩ e H' ⟨rfl, g0, g4, i1, i2, g3, i3, i4⟩
    simp only at g0 g4 i1 i2 g3 i3 i4
    by_cases hlt : i < l.length ∧ i < 60
    · have h1 : i < l.length := hlt.1
      have hsz := hs l[i] (List.getElem_mem h1)
      have ht := total_snoc l i h1
      repeat' (first | simp (disch := first | omega | assumption | decide) only [go_sem, hm, hz, ht, hr_, g0, g4, g3, cells_bytes, ix_get h1, lenD_bytes] | refine ifP_in (fun _ => ?_) (fun _ => ?_))
      refine ⟨(i + 1, min (n + min (l[i]).length 70001) 280000), ⟨by congr 2, by simp only; omega, by simp only; omega, ?_, by simp only; omega, ?_⟩, by simp only; omega⟩
      · simp only; congr 2; omega
      · simp only; intro hle; have := i4 (by omega); omega
    · by_cases hl0 : l.length ≤ 60
      · have hi : i = l.length := by omega
        subst hi
        rw [List.take_length] at i4
        repeat' (first | simp (disch := first | omega | assumption | decide) only [go_sem, hm, hz, ht, hr_, g0, g4, g3] | refine ifP_in (fun _ => ?_) (fun _ => ?_))
        refine ⟨_, rfl, fun h => ⟨hl0, ?_⟩⟩
        have h : n ≤ 70000 := by
          simp only [Bool.and_eq_true, decide_eq_true_eq] at h
          omega
        have := i4 h
        omega
      · have hi : i = 60 := by omega
        subst hi
        repeat' (first | simp (disch := first | omega | assumption | decide) only [go_sem, hm, hz, ht, hr_, g0, g4, g3] | refine ifP_in (fun _ => ?_) (fun _ => ?_))
        exact ⟨_, rfl, fun h => by cases h⟩

theorem xor_byte {P : Program} {xt : TypeId} (a b : Int) : ∃ x : UInt8, bin P .xor xt (.v (.int .u8 a)) (.v (.int .u8 b)) = some (byteA x) := by
  refine ⟨UInt8.ofNat (BitVec.ofInt (IntKind.bits .u8) a ^^^ BitVec.ofInt (IntKind.bits .u8) b).toNat, ?_⟩
  simp only [bin, binI, if_true, Option.map_some]
  have := wrap_put (BitVec.ofInt (IntKind.bits .u8) a ^^^ BitVec.ofInt (IntKind.bits .u8) b).toNat 0
  simp only [Int.pow_zero, Int.ediv_one, Nat.pow_zero, Nat.div_one] at this
  rw [this]
def endsOf (l : List (List UInt8)) (i : Nat) : List Int := (List.range i).map fun k => ((Jr.frames (l.take (k + 1))).length : Int)
theorem endsOf_len (l : List (List UInt8)) (i : Nat) : (endsOf l i).length = i := by simp [endsOf]
theorem endsOf_succ (l : List (List UInt8)) (i : Nat) : endsOf l (i + 1) = endsOf l i ++ [((Jr.frames (l.take (i + 1))).length : Int)] := by simp [endsOf, List.range_succ]
theorem endsOf_ix (l : List (List UInt8)) {i k : Nat} (h : k < i) : ix (endsOf l i) (k : Int) = ((Jr.frames (l.take (k + 1))).length : Int) := by
  rw [ix_get (by rw [endsOf_len]; exact h)]; simp [endsOf]
theorem frames_total (l : List (List UInt8)) : (Jr.frames l).length = total l + 6 * l.length := by
  induction l with
  | nil => rfl
  | cons p l ih => rw [Jr.frames_cons, List.length_append, ih, Jr.frame_len]; simp [total]; omega
theorem total_take (l : List (List UInt8)) (i : Nat) : total (l.take i) ≤ total l := by
  have h : total l = total (l.take i) + total (l.drop i) := by
    unfold total
    conv => lhs; rw [← List.take_append_drop i l]
    rw [List.map_append, List.sum_append]
  omega

theorem back_w (l : List (List UInt8)) (cut bit : Int) (hl : l.length ≤ 140737488355328) (hs : ∀ p ∈ l, p.length ≤ 140737488355328) (hc : (Lit.int .i64 cut).wf = true) (hb : (Lit.int .i64 bit).wf = true) :
    WF Try.prog cfg 4 [.sl (l.map AV.bytes), .i cut, .i bit] H (fun r H' => r = .b true) := by
  have hm : ∀ d, cfg.muF 4 d = (d == 7 || d == 86) := fun _ => rfl
  have hz : ∀ d, cfg.fzF 4 d = (false) := fun _ => rfl
  have ht : ∀ d, cfg.tkF 4 d = (false) := fun _ => rfl
  have hr_ : ∀ g, cfg.raw g = (g == 58 || g == 69) := fun _ => rfl
  refine rF_fn rfl rfl Try.func4 rfl ?_
  repeat' (first | simp (disch := first | omega | assumption | decide) only [go_sem, hm, hz, ht, hr_] | refine ifP_in (fun _ => ?_) (fun _ => ?_))
  refine rF_use first23_w ?_
  rintro _ H1 ⟨rfl, rfl⟩
  repeat' (first | simp (disch := first | omega | assumption | decide) only [go_sem, hm, hz, ht, hr_] | refine ifP_in (fun _ => ?_) (fun _ => ?_))
  refine rF_use (texts_w l hl hs) ?_
  rintro _ H0 ⟨t, rfl, hH, htx⟩
  subst hH
  by_cases hgo : t = true ∧ 0 ≤ cut ∧ 0 ≤ bit
  · obtain ⟨rfl, hc0, hb0⟩ := hgo
    obtain ⟨hl60, htot⟩ := htx rfl
    repeat' (first | simp (disch := first | omega | assumption | decide) only [go_sem, hm, hz, ht, hr_] | refine ifP_in (fun _ => ?_) (fun _ => ?_))
    refine rL_loop (σ := Nat) (fun i e H' => H0 <+: H' ∧ e 0 = .sl (l.map AV.bytes) ∧ e 1 = .i cut ∧ e 2 = .i bit ∧ e 9 = .i i ∧ i ≤ l.length ∧ RowOf byteA H0.length H' (e 7) (Jr.frames (l.take i)) ∧ e 8 = .sl ((endsOf l i).map fun n => AV.v (.int .i64 n)) ∧ ∀ p ∈ l.take i, p.length ≤ 60000) (fun i => l.length - i) 0 ?_ ?_
    · refine ⟨List.prefix_refl _, ?_, ?_, ?_, ?_, by simp, ?_, ?_, by simp⟩
      all_goals first | (simp (disch := first | assumption | omega) only [go_sem]; done) | (simp (disch := first | assumption | omega) only [go_sem]; rfl) | (simp (disch := first | assumption | omega) only [go_sem, hm]; exact RowOf.nil)
    · rintro i e K ⟨hp, g0, g1, g2, g9, i1, hr, g8, i2⟩
      generalize g7 : e 7 = a at *
      by_cases hil : i < l.length
      · have hix : ix l (i : Int) = l[i] := ix_get hil
        repeat' (first | simp (disch := first | omega | assumption | decide) only [go_sem, hm, hz, ht, hr_, g0, g1, g2, g7, g8, g9, cells_bytes, hix] | refine ifP_in (fun _ => ?_) (fun _ => ?_))
        refine rF_use (Frame_w l[i] (by have := hs l[i] (List.getElem_mem hil); have := total_snoc l i hil; have := total_take l (i + 1); omega)) ?_
        rintro _ K1 ⟨rfl, hp1⟩
        by_cases hbig : 60000 < (l[i]).length
        · rw [if_pos hbig]
          have hd : (false != decide (((l[i]).length : Int) ≤ 60000)) = false := by rw [decide_eq_false (by omega)]; rfl
          have hd2 : (false == decide (((l[i]).length : Int) ≤ 60000)) = true := by rw [decide_eq_false (by omega)]; rfl
          repeat' (first | simp (disch := first | omega | assumption | decide) only [go_sem, hm, hz, ht, hr_, g0, g1, g2, g7, g8, g9, cells_bytes, hix, lenD_bytes, hd, hd2] | refine ifP_in (fun _ => ?_) (fun _ => ?_))
          refine rF_use first23_w ?_
          rintro _ K2 ⟨rfl, rfl⟩
          repeat' (first | simp (disch := first | omega | assumption | decide) only [go_sem, hm, hz, ht, hr_, g0, g1, g2, g7, g8, g9, cells_bytes, hix, lenD_bytes, hd, hd2] | refine ifP_in (fun _ => ?_) (fun _ => ?_))
        · rw [if_neg hbig]
          have hd : (true != decide (((l[i]).length : Int) ≤ 60000)) = false := by rw [decide_eq_true (by omega)]; rfl
          have hfl := Jr.frame_len l[i]
          repeat' (first | simp (disch := first | omega | assumption | decide) only [go_sem, hm, hz, ht, hr_, g0, g1, g2, g7, g8, g9, cells_bytes, hix, lenD_bytes, hd] | refine ifP_in (fun _ => ?_) (fun _ => ?_))
          have hrp : RowOf byteA H0.length K1 a (Jr.frames (l.take i)) := by
            rcases hr with hr | ⟨j, j1, j2, j3, j4⟩
            · exact .inl hr
            · exact .inr ⟨j, j1, j2, pre_get hp1 j3, j4⟩
          have hft := frames_total (l.take i)
          have htt := total_take l i
          have hlt : (l.take i).length = i := by rw [List.length_take]; omega
          have hsn := Jr.frames_snoc l i hil
          refine bind_append (f := byteA) (ys := Jr.frame l[i]) hrp (List.IsPrefix.trans hp hp1) rfl (by omega) (by omega) ?_
          intro a' K2 hr2 hp2
          rw [← hsn] at hr2
          have hln : ∀ el, lenD (some (.slice el)) a' = some (.v (.int .i64 (Jr.frames (l.take (i + 1))).length)) := fun el => by have := hr2.len (el := el); rwa [hr2.ow] at this
          have hel := endsOf_len l i
          repeat' (first | simp (disch := first | omega | assumption | decide) only [go_sem, hm, hz, ht, hr_, g0, g1, g2, g8, g9, hln, hr2.ow, append_one] | refine ifP_in (fun _ => ?_) (fun _ => ?_))
          refine ⟨i + 1, ⟨hp2, rfl, by omega, hr2, ?_, ?_⟩, by omega⟩
          · rw [endsOf_succ]
          · intro p hpm
            rw [List.take_succ_eq_append_getElem hil] at hpm
            rcases List.mem_append.1 hpm with h | h
            · exact i2 p h
            · simp at h; subst h; omega
      · have hil : i = l.length := by omega
        subst hil
        rw [List.take_length] at hr i2
        have hft := frames_total l
        have hsa := Jr.scan_all l i2
        generalize hb' : Jr.frames l = b at *
        have hrd : Reads K (plainA a) b := by
          rcases hr with ⟨rfl, rfl⟩ | ⟨j, j1, rfl, j3, j4⟩
          · exact .inl rfl
          · exact .inr ⟨j, 0, b, rfl, j3, by simp, j4⟩
        have hln : ∀ el, lenD (some (.slice el)) a = some (.v (.int .i64 b.length)) := fun el => by have := hr.len (el := el); rwa [hr.ow] at this
        repeat' (first | simp (disch := first | omega | assumption | decide) only [go_sem, hm, hz, ht, hr_, g0, g1, g2, g7, g8, g9] | refine ifP_in (fun _ => ?_) (fun _ => ?_))
        refine rF_use (Scan_w' b (by omega) hrd) ?_
        rintro _ K1 ⟨m, rfl, hm1, hp1⟩
        rw [hsa] at hm1
        rw [hsa]
        have hd0 : ∀ x : Int, (x != x) = false := fun x => by simp
        repeat' (first | simp (disch := first | omega | assumption | decide) only [go_sem, hm, hz, ht, hr_, g0, g1, g2, g7, g8, g9, hln, hr.ow, hm1.plain, hd0] | refine ifP_in (fun _ => ?_) (fun _ => ?_))
        refine rF_use (rLists_w l l (by omega) rfl rfl) ?_
        rintro _ K2 ⟨rfl, rfl⟩
        by_cases hb0 : b.length = 0
        · repeat' (first | simp (disch := first | omega | assumption | decide) only [go_sem, hm, hz, ht, hr_, g0, g1, g2, g7, g8, g9, hln, hr.ow, hm1.plain, hd0] | refine ifP_in (fun _ => ?_) (fun _ => ?_))
          refine rF_use first23_w ?_
          rintro _ K3 ⟨rfl, rfl⟩
          repeat' (first | simp (disch := first | omega | assumption | decide) only [go_sem, hm, hz, ht, hr_] | refine ifP_in (fun _ => ?_) (fun _ => ?_))
        · rcases hr with ⟨_, hbn⟩ | ⟨j, j1, rfl, j3, j4⟩
          · exact absurd (congrArg List.length hbn) hb0
          have hcn : ∃ n : Nat, cut = n := ⟨cut.toNat, by omega⟩
          obtain ⟨n, rfl⟩ := hcn
          have hbn : ∃ n : Nat, bit = n := ⟨bit.toNat, by omega⟩
          obtain ⟨m', rfl⟩ := hbn
          have hmod : ((n : Int) % (b.length : Int)) = ((n % b.length : Nat) : Int) := by omega
          have hclt : n % b.length < b.length := Nat.mod_lt _ (by omega)
          generalize hcc : n % b.length = c at *
          repeat' (first | simp (disch := first | omega | assumption | decide) only [go_sem, hm, hz, ht, hr_, g0, g1, g2, g7, g8, g9, hd0, hmod] | refine ifP_in (fun _ => ?_) (fun _ => ?_))
          have hel := endsOf_len l l.length
          refine rL_loop (σ := Nat) (fun k e H' => H' = K2 ∧ e 0 = .sl (l.map AV.bytes) ∧ e 2 = .i (m' : Int) ∧ e 7 = .mr j 0 b.length 1 false ∧ e 8 = .sl ((endsOf l l.length).map fun n => AV.v (.int .i64 n)) ∧ e 14 = .i c ∧ e 15 = .i k ∧ k ≤ l.length ∧ (Jr.frames (l.take k)).length ≤ c) (fun k => l.length - k) 0 ?_ ?_
          · refine ⟨rfl, ?_, ?_, ?_, ?_, ?_, ?_, by simp, by simp [Jr.frames]⟩
            all_goals first | (simp (disch := first | assumption | omega) only [go_sem, g0, g2, g7, g8, hmod]; done) | (simp (disch := first | assumption | omega) only [go_sem, g0, g2, g7, g8, hmod]; rfl)
          · clear g0 g1 g2 g7 g8 g9
            rintro k e K3 ⟨rfl, g0, g2, g7, g8, g14, g15, k1, k2⟩
            have hkl : k < l.length := by
              rcases Nat.lt_or_ge k l.length with h | h
              · exact h
              · have : k = l.length := by omega
                subst this
                rw [List.take_length, hb'] at k2
                omega
            have hex := endsOf_ix l hkl
            by_cases hle : (Jr.frames (l.take (k + 1))).length ≤ c
            · repeat' (first | simp (disch := first | omega | assumption | decide) only [go_sem, hm, hz, ht, hr_, g0, g2, g7, g8, g14, g15, hex] | refine ifP_in (fun _ => ?_) (fun _ => ?_))
              exact ⟨k + 1, ⟨rfl, by omega, hle⟩, by omega⟩
            · repeat' (first | simp (disch := first | omega | assumption | decide) only [go_sem, hm, hz, ht, hr_, g0, g2, g7, g8, g14, g15, hex] | refine ifP_in (fun _ => ?_) (fun _ => ?_))
              have j3' : K3[j]? = some (b.map byteA) := pre_get hp1 j3
              have hcut := Jr.scan_cut l c k i2 hkl k2 (by omega)
              rw [hb'] at hcut
              have hsc : WF Try.prog cfg 15 [.mr j 0 c 1 false] K3 (fun r H' => ∃ a, r = .tup [a, .i (Jr.frames (l.take k)).length] ∧ TokOf AV.bytes 1 K3.length H' a (l.take k) ∧ K3 <+: H') := by
                rcases Nat.eq_zero_or_pos c with h | h
                · subst h
                  rw [List.take_zero, Jr.scan_nil] at hcut
                  injection hcut with h1 h2
                  have := Scan_w0 (H := K3) j 0
                  rw [← h2, ← h1]
                  exact this
                · have hr3 : Reads K3 (.mr j 0 c 1 false) (b.take c) := by
                    have hl : (b.take c).length = c := by rw [List.length_take]; omega
                    exact .inr ⟨j, 0, b, by rw [hl], j3', by rw [hl]; rfl, by omega⟩
                  have := Scan_w' (b.take c) (by rw [List.length_take]; omega) hr3
                  rw [hcut] at this
                  exact this
              refine rF_use hsc ?_
              rintro _ K4 ⟨p, rfl, hpt, hp4⟩
              repeat' (first | simp (disch := first | omega | assumption | decide) only [go_sem, hm, hz, ht, hr_, g0, g2, g7, g8, g14, g15, hex, hpt.plain] | refine ifP_in (fun _ => ?_) (fun _ => ?_))
              refine rF_use (rLists_w _ _ (by rw [List.length_take]; omega) rfl rfl) ?_
              rintro _ K5 ⟨rfl, rfl⟩
              have j5 : K5[j]? = some (b.map byteA) := pre_get hp4 j3'
              have hm8 : ((m' : Int) % (8 * (b.length : Int))) = ((m' % (8 * b.length) : Nat) : Int) := by push_cast; rfl
              have hmlt : m' % (8 * b.length) < 8 * b.length := Nat.mod_lt _ (by omega)
              generalize hmm : m' % (8 * b.length) = q at *
              have hq8 : ((q : Int) / 8) = ((q / 8 : Nat) : Int) := by omega
              have hr8 : ((q : Int) % 8) = ((q % 8 : Nat) : Int) := by omega
              have hqd : q / 8 < b.length := by omega
              have hqr : q % 8 < 8 := Nat.mod_lt _ (by omega)
              generalize hqq : q / 8 = y at *
              generalize hqq2 : q % 8 = u at *
              have hby : b[y]? = some b[y] := List.getElem?_eq_getElem hqd
              generalize hbv : b[y] = v at *
              rcases Nat.eq_zero_or_pos k with hk0 | hk0
              · subst hk0
                have hz0 : (((Jr.frames (l.take 0)).length : Int)) = 0 := rfl
                rw [hz0]
                repeat' (first | simp (disch := first | omega | assumption | decide) only [go_sem, hm, hz, ht, hr_, g0, g2, g7, g8, g14, g15, hex, hd0, hm8, hq8, hr8, hz0, j5, plainD_map, partD_map, hby] | refine ifP_in (fun _ => ?_) (fun _ => ?_))
                obtain ⟨x, hx⟩ := xor_byte (P := Try.prog) (xt := 5) (v.toNat : Int) (IntKind.u8.wrap (1 * 2 ^ u))
                rw [hx, bindP_some]
                repeat' (first | simp (disch := first | omega | assumption | decide) only [go_sem, hm, hz, ht, hr_, g0, g2, g7, g8, g14, g15, hex, hd0, hm8, hq8, hr8, j5, plainD_map, partD_map, hby] | refine ifP_in (fun _ => ?_) (fun _ => ?_))
                rw [store_row j5 hqd, bindP_some]
                have hjl : j < K5.length := (List.getElem?_eq_some_iff.1 j5).1
                have j6 : (K5.set j ((b.set y x).map byteA))[j]? = some ((b.set y x).map byteA) := get_set hjl
                generalize hK6 : K5.set j ((b.set y x).map byteA) = K6 at j6
                repeat' (first | simp (disch := first | omega | assumption | decide) only [go_sem, hm, hz, ht, hr_, g0, g2, g7, g8, g14, g15, hex, hd0, hm8, hq8, hr8] | refine ifP_in (fun _ => ?_) (fun _ => ?_))
                refine rL_loop (σ := Nat) (fun i e H' => H' = K6 ∧ e 0 = .sl (l.map AV.bytes) ∧ e 7 = .mr j 0 b.length 1 false ∧ e 8 = .sl ((endsOf l l.length).map fun n => AV.v (.int .i64 n)) ∧ e 18 = .i (q : Int) ∧ e 19 = .i i ∧ i ≤ l.length ∧ (Jr.frames (l.take i)).length ≤ y) (fun i => l.length - i) 0 ?_ ?_
                · refine ⟨rfl, ?_, ?_, ?_, ?_, ?_, by simp, by simp [Jr.frames]⟩
                  all_goals first | (simp (disch := first | assumption | omega) only [go_sem, g0, g2, g7, g8, hm8]; done) | (simp (disch := first | assumption | omega) only [go_sem, g0, g2, g7, g8, hm8]; rfl)
                · clear g0 g2 g7 g8 g14 g15
                  rintro i e K7 ⟨rfl, g0, g7, g8, g18, g19, s1, s2⟩
                  have hil : i < l.length := by
                    rcases Nat.lt_or_ge i l.length with h | h
                    · exact h
                    · have : i = l.length := by omega
                      subst this
                      rw [List.take_length, hb'] at s2
                      omega
                  have hei := endsOf_ix l hil
                  by_cases hle2 : (Jr.frames (l.take (i + 1))).length ≤ y
                  · repeat' (first | simp (disch := first | omega | assumption | decide) only [go_sem, hm, hz, ht, hr_, g0, g7, g8, g18, g19, hei, hq8] | refine ifP_in (fun _ => ?_) (fun _ => ?_))
                    exact ⟨i + 1, ⟨rfl, by omega, hle2⟩, by omega⟩
                  · have hturn := Jr.scan_turn l y i x i2 s1 s2
                    rw [hb'] at hturn
                    have hsl : (b.set y x).length = b.length := List.length_set
                    have hr6 : Reads K7 (.mr j 0 b.length 1 false) (b.set y x) := .inr ⟨j, 0, b.set y x, by rw [hsl], j6, by rw [hsl, List.drop_zero]; exact List.take_of_length_le (by omega), by omega⟩
                    have hsln := Jr.scan_len (b.set y x)
                    repeat' (first | simp (disch := first | omega | assumption | decide) only [go_sem, hm, hz, ht, hr_, g0, g7, g8, g18, g19, hei, hq8] | refine ifP_in (fun _ => ?_) (fun _ => ?_))
                    refine rF_use (Scan_w' (b.set y x) (by omega) hr6) ?_
                    rintro _ K8 ⟨w, rfl, hwt, hp8⟩
                    generalize hss : (Jr.scan (b.set y x)).1 = ss at *
                    repeat' (first | simp (disch := first | omega | assumption | decide) only [go_sem, hm, hz, ht, hr_, g0, g7, g8, g18, g19, hei, hq8, hwt.plain] | refine ifP_in (fun _ => ?_) (fun _ => ?_))
                    refine rF_use first23_w ?_
                    rintro _ K9 ⟨rfl, rfl⟩
                    have hti : (l.take i).length = i := by rw [List.length_take]; omega
                    have hwl : ∀ el, lenD (some (.slice el)) (owA w) = some (.v (.int .i64 ss.length)) := fun el => hwt.len
                    rcases hwt with ⟨rfl, hsn⟩ | ⟨jj, _, rfl, _, _⟩
                    · subst hsn
                      have hi0 : i = 0 := by have := hturn.1; simp at this; exact this
                      subst hi0
                      repeat' (first | simp (disch := first | omega | assumption | decide) only [go_sem, hm, hz, ht, hr_, g0, g7, g8, g18, g19, hei, hq8, hwl] | refine ifP_in (fun _ => ?_) (fun _ => ?_))
                      refine rF_use (rLists_w [] [] (by simp) rfl rfl) ?_
                      rintro _ K10 ⟨rfl, rfl⟩
                      repeat' (first | simp (disch := first | omega | assumption | decide) only [go_sem, hm, hz, ht, hr_] | refine ifP_in (fun _ => ?_) (fun _ => ?_))
                    · have hle3 := hturn.1
                      repeat' (first | simp (disch := first | omega | assumption | decide) only [go_sem, hm, hz, ht, hr_, g0, g7, g8, g18, g19, hei, hq8, hwl] | refine ifP_in (fun _ => ?_) (fun _ => ?_))
                      refine rF_use (rLists_w (ss.take i) (l.take i) (by rw [List.length_take]; omega) rfl rfl) ?_
                      rintro _ K10 ⟨rfl, rfl⟩
                      repeat' (first | simp (disch := first | omega | assumption | decide) only [go_sem, hm, hz, ht, hr_] | refine ifP_in (fun _ => ?_) (fun _ => ?_))
                      rw [decide_eq_true hturn.2]
              · obtain ⟨k, rfl⟩ : ∃ x, k = x + 1 := ⟨k - 1, by omega⟩
                have hex2 := endsOf_ix l (show k < l.length by omega)
                have hk1 : ((k + 1 : Nat) : Int) - 1 = (k : Int) := by omega
                repeat' (first | simp (disch := first | omega | assumption | decide) only [go_sem, hm, hz, ht, hr_, g0, g2, g7, g8, g14, g15, hex, hd0, hm8, hq8, hr8, hex2, hk1, j5, plainD_map, partD_map, hby] | refine ifP_in (fun _ => ?_) (fun _ => ?_))
                obtain ⟨x, hx⟩ := xor_byte (P := Try.prog) (xt := 5) (v.toNat : Int) (IntKind.u8.wrap (1 * 2 ^ u))
                rw [hx, bindP_some]
                repeat' (first | simp (disch := first | omega | assumption | decide) only [go_sem, hm, hz, ht, hr_, g0, g2, g7, g8, g14, g15, hex, hd0, hm8, hq8, hr8, j5, plainD_map, partD_map, hby] | refine ifP_in (fun _ => ?_) (fun _ => ?_))
                rw [store_row j5 hqd, bindP_some]
                have hjl : j < K5.length := (List.getElem?_eq_some_iff.1 j5).1
                have j6 : (K5.set j ((b.set y x).map byteA))[j]? = some ((b.set y x).map byteA) := get_set hjl
                generalize hK6 : K5.set j ((b.set y x).map byteA) = K6 at j6
                repeat' (first | simp (disch := first | omega | assumption | decide) only [go_sem, hm, hz, ht, hr_, g0, g2, g7, g8, g14, g15, hex, hd0, hm8, hq8, hr8] | refine ifP_in (fun _ => ?_) (fun _ => ?_))
                refine rL_loop (σ := Nat) (fun i e H' => H' = K6 ∧ e 0 = .sl (l.map AV.bytes) ∧ e 7 = .mr j 0 b.length 1 false ∧ e 8 = .sl ((endsOf l l.length).map fun n => AV.v (.int .i64 n)) ∧ e 18 = .i (q : Int) ∧ e 19 = .i i ∧ i ≤ l.length ∧ (Jr.frames (l.take i)).length ≤ y) (fun i => l.length - i) 0 ?_ ?_
                · refine ⟨rfl, ?_, ?_, ?_, ?_, ?_, by simp, by simp [Jr.frames]⟩
                  all_goals first | (simp (disch := first | assumption | omega) only [go_sem, g0, g2, g7, g8, hm8]; done) | (simp (disch := first | assumption | omega) only [go_sem, g0, g2, g7, g8, hm8]; rfl)
                · clear g0 g2 g7 g8 g14 g15
                  rintro i e K7 ⟨rfl, g0, g7, g8, g18, g19, s1, s2⟩
                  have hil : i < l.length := by
                    rcases Nat.lt_or_ge i l.length with h | h
                    · exact h
                    · have : i = l.length := by omega
                      subst this
                      rw [List.take_length, hb'] at s2
                      omega
                  have hei := endsOf_ix l hil
                  by_cases hle2 : (Jr.frames (l.take (i + 1))).length ≤ y
                  · repeat' (first | simp (disch := first | omega | assumption | decide) only [go_sem, hm, hz, ht, hr_, g0, g7, g8, g18, g19, hei, hq8] | refine ifP_in (fun _ => ?_) (fun _ => ?_))
                    exact ⟨i + 1, ⟨rfl, by omega, hle2⟩, by omega⟩
                  · have hturn := Jr.scan_turn l y i x i2 s1 s2
                    rw [hb'] at hturn
                    have hsl : (b.set y x).length = b.length := List.length_set
                    have hr6 : Reads K7 (.mr j 0 b.length 1 false) (b.set y x) := .inr ⟨j, 0, b.set y x, by rw [hsl], j6, by rw [hsl, List.drop_zero]; exact List.take_of_length_le (by omega), by omega⟩
                    have hsln := Jr.scan_len (b.set y x)
                    repeat' (first | simp (disch := first | omega | assumption | decide) only [go_sem, hm, hz, ht, hr_, g0, g7, g8, g18, g19, hei, hq8] | refine ifP_in (fun _ => ?_) (fun _ => ?_))
                    refine rF_use (Scan_w' (b.set y x) (by omega) hr6) ?_
                    rintro _ K8 ⟨w, rfl, hwt, hp8⟩
                    generalize hss : (Jr.scan (b.set y x)).1 = ss at *
                    repeat' (first | simp (disch := first | omega | assumption | decide) only [go_sem, hm, hz, ht, hr_, g0, g7, g8, g18, g19, hei, hq8, hwt.plain] | refine ifP_in (fun _ => ?_) (fun _ => ?_))
                    refine rF_use first23_w ?_
                    rintro _ K9 ⟨rfl, rfl⟩
                    have hti : (l.take i).length = i := by rw [List.length_take]; omega
                    have hwl : ∀ el, lenD (some (.slice el)) (owA w) = some (.v (.int .i64 ss.length)) := fun el => hwt.len
                    rcases hwt with ⟨rfl, hsn⟩ | ⟨jj, _, rfl, _, _⟩
                    · subst hsn
                      have hi0 : i = 0 := by have := hturn.1; simp at this; exact this
                      subst hi0
                      repeat' (first | simp (disch := first | omega | assumption | decide) only [go_sem, hm, hz, ht, hr_, g0, g7, g8, g18, g19, hei, hq8, hwl] | refine ifP_in (fun _ => ?_) (fun _ => ?_))
                      refine rF_use (rLists_w [] [] (by simp) rfl rfl) ?_
                      rintro _ K10 ⟨rfl, rfl⟩
                      repeat' (first | simp (disch := first | omega | assumption | decide) only [go_sem, hm, hz, ht, hr_] | refine ifP_in (fun _ => ?_) (fun _ => ?_))
                    · have hle3 := hturn.1
                      repeat' (first | simp (disch := first | omega | assumption | decide) only [go_sem, hm, hz, ht, hr_, g0, g7, g8, g18, g19, hei, hq8, hwl] | refine ifP_in (fun _ => ?_) (fun _ => ?_))
                      refine rF_use (rLists_w (ss.take i) (l.take i) (by rw [List.length_take]; omega) rfl rfl) ?_
                      rintro _ K10 ⟨rfl, rfl⟩
                      repeat' (first | simp (disch := first | omega | assumption | decide) only [go_sem, hm, hz, ht, hr_] | refine ifP_in (fun _ => ?_) (fun _ => ?_))
                      rw [decide_eq_true hturn.2]
  · have h1 : t = false ∨ t = true := by cases t <;> simp
    rcases h1 with rfl | rfl
    · repeat' (first | simp (disch := first | omega | assumption | decide) only [go_sem, hm, hz, ht, hr_] | refine ifP_in (fun _ => ?_) (fun _ => ?_))
      refine rF_use first23_w ?_
      rintro _ K3 ⟨rfl, rfl⟩
      repeat' (first | simp (disch := first | omega | assumption | decide) only [go_sem, hm, hz, ht, hr_] | refine ifP_in (fun _ => ?_) (fun _ => ?_))
    · by_cases hc0 : cut < 0
      · repeat' (first | simp (disch := first | omega | assumption | decide) only [go_sem, hm, hz, ht, hr_] | refine ifP_in (fun _ => ?_) (fun _ => ?_))
        refine rF_use first23_w ?_
        rintro _ K3 ⟨rfl, rfl⟩
        repeat' (first | simp (disch := first | omega | assumption | decide) only [go_sem, hm, hz, ht, hr_] | refine ifP_in (fun _ => ?_) (fun _ => ?_))
      · have hb0 : bit < 0 := by
          rcases Int.lt_or_le bit 0 with h | h
          · exact h
          · exact absurd ⟨rfl, by omega, h⟩ hgo
        repeat' (first | simp (disch := first | omega | assumption | decide) only [go_sem, hm, hz, ht, hr_] | refine ifP_in (fun _ => ?_) (fun _ => ?_))
        refine rF_use first23_w ?_
        rintro _ K3 ⟨rfl, rfl⟩
        repeat' (first | simp (disch := first | omega | assumption | decide) only [go_sem, hm, hz, ht, hr_] | refine ifP_in (fun _ => ?_) (fun _ => ?_))
end Jn
end Go.Proofs
