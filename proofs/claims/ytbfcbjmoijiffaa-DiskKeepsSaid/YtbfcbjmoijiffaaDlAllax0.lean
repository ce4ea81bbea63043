/- A value semantics of the loaded code, its soundness, and walks through functions over it. -/
import Derived.Test.YtbfcbjmoijiffaaDrAllax0
set_option linter.unusedVariables false
set_option linter.unusedSimpArgs false
/-! The disk's laws: operations, in plain Lean. -/
namespace Dl
open Dk (Files Bs Ch Ev Disk)
structure DOp where
  kind : Int
  keep : Int
  torn : Int
  room : Int
  name : Bs
  to : Bs
  b : Bs
  plan : List Ev
  deriving Inhabited
/-- How large an operation may be. -/
structure Small (o : DOp) : Prop where
  name : o.name.length ≤ 400
  to : o.to.length ≤ 400
  plan : o.plan.length ≤ 40
  b : o.b.length ≤ 140737488355328
def doesD (s : Disk) (o : DOp) : Disk :=
  if o.kind = 0 then (Dk.write s o.name o.b).1 else if o.kind = 1 then (Dk.append s o.name o.b).1 else if o.kind = 2 then (Dk.rename s o.name o.to).1 else if o.kind = 3 then (Dk.delete s o.name).1
  else if o.kind = 4 then (Dk.sync s).1 else if o.kind = 5 then (Dk.read s o.name).1 else if o.kind = 6 then (Dk.call s []).1 else if o.kind = 7 then Dk.crash s o.keep o.torn
  else if o.kind = 8 then { s with down := false } else if o.kind = 9 then { s with plan := o.plan } else if o.kind = 10 then (if 0 ≤ o.room ∧ o.room ≤ 1073741824 then { s with room := o.room } else s) else s
def doesR (s : Disk) (o : DOp) : Disk :=
  if o.kind = 0 then (Dr.write s o.name o.b).1 else if o.kind = 1 then (Dr.append s o.name o.b).1 else if o.kind = 2 then (Dr.rename s o.name o.to).1 else if o.kind = 3 then (Dr.delete s o.name).1
  else if o.kind = 4 then (Dr.sync s).1 else if o.kind = 5 then (Dr.read s o.name).1 else if o.kind = 6 then (Dr.list s).1 else if o.kind = 7 then Dr.crash s o.keep o.torn
  else if o.kind = 8 then { s with down := false } else if o.kind = 9 then Dr.plan s o.plan else if o.kind = 10 then (if 0 ≤ o.room ∧ o.room ≤ 1073741824 then { s with room := o.room } else s) else s

theorem list_begun {s r : Disk} (h : Dr.Live s r) : (Dr.list r).1 = (Dr.events r).1 ∧ (Dr.list r).2.2 = (Dk.call s []).2.2 := by
  unfold Dr.list
  simp only [h.begin0]
  split
  · exact ⟨rfl, rfl⟩
  · rename_i h0
    exact ⟨rfl, by simpa using (Classical.not_not.1 h0).symm⟩
/-- What stays, whatever is done. -/
structure Kept (n : Int) (s r : Disk) : Prop where
  live : Dr.Live s r
  calls : s.calls ≤ n
  plan : s.plan.length ≤ 40
  rplan : r.plan.length ≤ 40
theorem call_next {s r s' r' : Disk} {n : Int} (h : Kept n s r) (hn : Dr.Next s s' r r') (hp : r'.plan = r.plan) : Kept (n + 1) s' r' :=
  ⟨hn.live, by rw [hn.calls]; have := h.calls; omega, by rw [hn.plan]; exact h.plan, by rw [hp]; exact h.rplan⟩
theorem begin_plan (s : Disk) (n : Bs) (t : Bool) : (Dr.begin s n t).1.plan = s.plan := (Dr.events_calls s).2
theorem rwrite_plan (s : Disk) (n b : Bs) : (Dr.write s n b).1.plan = s.plan := by
  have h := begin_plan s n true
  unfold Dr.write
  simp only
  split
  · exact h
  · split <;> exact h
theorem rappend_plan (s : Disk) (n b : Bs) : (Dr.append s n b).1.plan = s.plan := by
  have h := begin_plan s n true
  unfold Dr.append
  simp only
  split
  · exact h
  · split <;> exact h
theorem rrename_plan (s : Disk) (n b : Bs) : (Dr.rename s n b).1.plan = s.plan := by
  have h := begin_plan s n true
  unfold Dr.rename
  simp only
  split
  · exact h
  · split
    · exact h
    · split
      · exact h
      · split <;> exact h
theorem rdelete_plan (s : Disk) (n : Bs) : (Dr.delete s n).1.plan = s.plan := by
  have h := begin_plan s n true
  unfold Dr.delete
  simp only
  split
  · exact h
  · split <;> exact h
theorem rsync_plan (s : Disk) : (Dr.sync s).1.plan = s.plan := by
  have h := begin_plan s [] false
  unfold Dr.sync
  simp only
  split <;> exact h
theorem rread_plan (s : Disk) (n : Bs) : (Dr.read s n).1.plan = s.plan := by
  have h := begin_plan s n true
  unfold Dr.read
  simp only
  split
  · exact h
  · split <;> exact h
theorem Kept.list {n : Int} {s r : Disk} (h : Kept n s r) : Kept (n + 1) (Dk.call s []).1 (Dr.list r).1 := by
  obtain ⟨h1, h2, h3⟩ := h.live.begun
  rw [(list_begun h.live).1]
  exact call_next h h3 (Dr.events_calls r).2
theorem Kept.le {n m : Int} {s r : Disk} (h : Kept n s r) (hm : n ≤ m) : Kept m s r := ⟨h.live, Int.le_trans h.calls hm, h.plan, h.rplan⟩
theorem Kept.does {n : Int} {s r : Disk} (h : Kept n s r) {o : DOp} (ho : Small o) : Kept (n + 1) (doesD s o) (doesR r o) := by
  unfold doesD doesR
  by_cases c0 : o.kind = 0
  · rw [if_pos c0, if_pos c0]
    exact call_next h (h.live.write _ _).1 (rwrite_plan _ _ _)
  rw [if_neg c0, if_neg c0]
  by_cases c1 : o.kind = 1
  · rw [if_pos c1, if_pos c1]
    exact call_next h (h.live.append _ _).1 (rappend_plan _ _ _)
  rw [if_neg c1, if_neg c1]
  by_cases c2 : o.kind = 2
  · rw [if_pos c2, if_pos c2]
    exact call_next h (h.live.rename _ _).1 (rrename_plan _ _ _)
  rw [if_neg c2, if_neg c2]
  by_cases c3 : o.kind = 3
  · rw [if_pos c3, if_pos c3]
    exact call_next h (h.live.delete _).1 (rdelete_plan _ _)
  rw [if_neg c3, if_neg c3]
  by_cases c4 : o.kind = 4
  · rw [if_pos c4, if_pos c4]
    exact call_next h h.live.sync.1 (rsync_plan _)
  rw [if_neg c4, if_neg c4]
  by_cases c5 : o.kind = 5
  · rw [if_pos c5, if_pos c5]
    exact call_next h (h.live.read _).1 (rread_plan _ _)
  rw [if_neg c5, if_neg c5]
  by_cases c6 : o.kind = 6
  · rw [if_pos c6, if_pos c6]
    exact h.list
  rw [if_neg c6, if_neg c6]
  by_cases c7 : o.kind = 7
  · rw [if_pos c7, if_pos c7]
    obtain ⟨h1, h2, h3⟩ := h.live.crash o.keep o.torn
    exact Kept.le (n := n) ⟨h1, by rw [h2]; exact h.calls, by rw [h3]; exact h.plan, by rw [(Dr.crash_calls _ _ _).2]; exact h.rplan⟩ (by omega)
  rw [if_neg c7, if_neg c7]
  by_cases c8 : o.kind = 8
  · rw [if_pos c8, if_pos c8]
    exact Kept.le (n := n) ⟨h.live.reboot, h.calls, h.plan, h.rplan⟩ (by omega)
  rw [if_neg c8, if_neg c8]
  by_cases c9 : o.kind = 9
  · rw [if_pos c9, if_pos c9]
    exact Kept.le (n := n) ⟨h.live.planned o.plan, h.calls, ho.plan, Nat.le_trans (List.length_filter_le _ _) ho.plan⟩ (by omega)
  rw [if_neg c9, if_neg c9]
  by_cases c10 : o.kind = 10
  · rw [if_pos c10, if_pos c10]
    by_cases hr : 0 ≤ o.room ∧ o.room ≤ 1073741824
    · rw [if_pos hr, if_pos hr]
      exact Kept.le (n := n) ⟨h.live.resize _ hr, h.calls, h.plan, h.rplan⟩ (by omega)
    · rw [if_neg hr, if_neg hr]
      exact h.le (by omega)
  rw [if_neg c10, if_neg c10]
  exact h.le (by omega)
theorem Kept.new (room : Int) (h : 0 ≤ room ∧ room ≤ 1073741824) : Kept 0 ⟨room, [], [], [], [], 0, false⟩ ⟨room, [], [], [], [], 0, false⟩ := ⟨Dr.Live.new room h, by simp, by simp, by simp⟩
theorem Kept.fold {n : Int} {s r : Disk} (h : Kept n s r) : ∀ (l : List DOp), (∀ o ∈ l, Small o) → Kept (n + l.length) (l.foldl doesD s) (l.foldl doesR r) := by
  intro l
  induction l generalizing n s r with
  | nil => intro _; simpa using h
  | cons o l ih =>
    intro hl
    have := ih (h.does (hl o (by simp))) (fun x hx => hl x (List.mem_cons_of_mem _ hx))
    exact this.le (by simp; omega)
end Dl
/- Walks: what the disk's laws share. -/
set_option linter.unusedVariables false
set_option linter.unusedSimpArgs false
namespace Go.Proofs
open Go.Lv
namespace Jn
open Dk (Files Bs Ch Ev)
open Dl (DOp Small)
variable {H : Heap}

theorem bytesV_reads' {a : AV} {l : List UInt8} (ha : Reads H a l) : bytesV H a = some ⟨⟨l⟩⟩ := by
  rcases ha with rfl | ⟨j, off, xs, rfl, hj, hx, h0⟩
  · exact bytesOfA_map l
  · have hle : off + l.length ≤ xs.length := by
      have := congrArg List.length hx
      simp at this; omega
    simp only [bytesV, hj, Option.bind_some]
    rw [if_pos ⟨h0, by rw [List.length_map]; exact hle, (plainRow_spec (plainRow_one (all_cell1 xs))).1⟩, ← List.map_drop, ← List.map_take, hx]
    exact bytesOfA_map l
theorem lbytes_w (a b : List UInt8) {x y : AV} (hx : Reads H x a) (hy : Reads H y b) : WF Try.prog cfg 13 [x, y] H (fun r H' => r = .b (decide (a = b)) ∧ H' = H) := by
  refine WF.ext (g := fun args H => equalT H args) rfl (r := .b (decide (a = b))) (H' := H) ?_ ⟨rfl, rfl⟩
  show equalT H [x, y] = _
  simp only [equalT, bytesV_reads' hx, bytesV_reads' hy, Option.bind_some, Option.map_some, toList_mk]
  congr 4
  by_cases h : a = b <;> simp [h]
theorem texts_w (a b : List Bs) (ha : a.length < 100000000) (hb : b.length < 100000000) : WF Try.prog cfg 42 [.sl (a.map AV.str), .sl (b.map AV.str)] H (fun r H' => r = .b (decide (a = b)) ∧ H' = H) := by
  have hm : ∀ d, cfg.muF 42 d = (false) := fun _ => rfl
  have hz : ∀ d, cfg.fzF 42 d = (false) := fun _ => rfl
  have ht : ∀ d, cfg.tkF 42 d = (false) := fun _ => rfl
  have hr_ : ∀ g, cfg.raw g = (g == 33 || g == 41) := fun _ => rfl
  refine rF_fn rfl rfl Try.func42 rfl ?_
  by_cases hl : a.length = b.length
  · have hl' : ¬ ((a.length : Int) ≠ b.length) := by omega
    repeat' first | simp (disch := first | omega | assumption | decide) only [go_sem, hm, hz, ht, hr_] | refine ifP_in (fun _ => ?_) fun _ => ?_
    refine rL_loop (σ := Nat) (fun i e K => K = H ∧ e 0 = .sl (a.map AV.str) ∧ e 1 = .sl (b.map AV.str) ∧ e 5 = .i i ∧ i ≤ a.length ∧ a.take i = b.take i) (fun i => a.length - i) 0 ?_ ?_
    · refine ⟨rfl, ?_, ?_, ?_, by omega, by simp⟩
      all_goals first | (simp (disch := first | assumption | omega) only [go_sem]; done) | (simp (disch := first | assumption | omega) only [go_sem]; rfl)
    · rintro i e K ⟨hK, g0, g1, g5, i1, i2⟩
      have hK := hK.symm
      subst hK
      by_cases hil : i < a.length
      · have hix := ix_at' hil
        have hiy := ix_at' (show i < b.length by omega)
        have hs : a.take (i + 1) = a.take i ++ [a[i]] := List.take_succ_eq_append_getElem hil
        have hs2 : b.take (i + 1) = b.take i ++ [b[i]'(by omega)] := List.take_succ_eq_append_getElem (by omega)
        have hne : a[i] ≠ b[i]'(by omega) → a ≠ b := by rintro h rfl; exact h rfl
        generalize a[i] = x at *
        generalize b[i]'(by omega) = y at *
        repeat' first | simp (disch := first | omega | assumption | decide) only [go_sem, hm, hz, ht, hr_, g0, g1, g5, hix, hiy, cells_str, wdl, bind_some_, map_some_, oneD_fold] | refine ifP_in (fun _ => ?_) fun _ => ?_
        · rw [decide_eq_false (hne (by assumption))]
        · rename_i he
          have he : x = y := Classical.not_not.1 he
          exact ⟨i + 1, ⟨rfl, by omega, by rw [hs, hs2, i2, he]⟩, by omega⟩
      · have : i = a.length := by omega
        subst this
        have : a = b := by rw [List.take_length, hl, List.take_length] at i2; exact i2
        repeat' first | simp (disch := first | omega | assumption | decide) only [go_sem, hm, hz, ht, hr_, g0, g1, g5, wdl, bind_some_, map_some_, oneD_fold] | refine ifP_in (fun _ => ?_) fun _ => ?_
        rw [decide_eq_true this]
  · have hl' : (a.length : Int) ≠ b.length := by omega
    repeat' first | simp (disch := first | omega | assumption | decide) only [go_sem, hm, hz, ht, hr_] | refine ifP_in (fun _ => ?_) fun _ => ?_
    rw [decide_eq_false (fun e => hl (by rw [e]))]
theorem has_l_w (l : List Bs) (s : Bs) (hl : l.length < 100000000) : WF Try.prog cfg 28 [.sl (l.map AV.str), .str s] H (fun r H' => r = .b (decide (s ∈ l)) ∧ H' = H) := by
  have hm : ∀ d, cfg.muF 28 d = (false) := fun _ => rfl
  have hz : ∀ d, cfg.fzF 28 d = (false) := fun _ => rfl
  have ht : ∀ d, cfg.tkF 28 d = (false) := fun _ => rfl
  have hr_ : ∀ g, cfg.raw g = (g == 33 || g == 41) := fun _ => rfl
  refine rF_fn rfl rfl Try.func28 rfl ?_
  repeat' first | simp (disch := first | omega | assumption | decide) only [go_sem, hm, hz, ht, hr_] | refine ifP_in (fun _ => ?_) fun _ => ?_
  refine rL_loop (σ := Nat) (fun i e K => K = H ∧ e 0 = .sl (l.map AV.str) ∧ e 1 = .str s ∧ e 5 = .i i ∧ i ≤ l.length ∧ s ∉ l.take i) (fun i => l.length - i) 0 ?_ ?_
  · refine ⟨rfl, ?_, ?_, ?_, by omega, by simp⟩
    all_goals first | (simp (disch := first | assumption | omega) only [go_sem]; done) | (simp (disch := first | assumption | omega) only [go_sem]; rfl)
  · rintro i e K ⟨hK, g0, g1, g5, i1, i2⟩
    have hK := hK.symm
    subst hK
    by_cases hil : i < l.length
    · have hix := ix_at' hil
      have hs : l.take (i + 1) = l.take i ++ [l[i]] := List.take_succ_eq_append_getElem hil
      have hm1 : l[i] ∈ l := List.getElem_mem hil
      generalize l[i] = x at *
      repeat' first | simp (disch := first | omega | assumption | decide) only [go_sem, hm, hz, ht, hr_, g0, g1, g5, hix, cells_str, wdl, bind_some_, map_some_, oneD_fold] | refine ifP_in (fun _ => ?_) fun _ => ?_
      · rename_i he
        rw [decide_eq_true (by rw [← he]; exact hm1)]
      · rename_i he
        refine ⟨i + 1, ⟨rfl, by omega, ?_⟩, by omega⟩
        rw [hs, List.mem_append, List.mem_singleton]
        rintro (h | h)
        · exact i2 h
        · exact he h.symm
    · have : i = l.length := by omega
      subst this
      rw [List.take_length] at i2
      repeat' first | simp (disch := first | omega | assumption | decide) only [go_sem, hm, hz, ht, hr_, g0, g1, g5, wdl, bind_some_, map_some_, oneD_fold] | refine ifP_in (fun _ => ?_) fun _ => ?_
      rw [decide_eq_false i2]
theorem plainE_w (l : List Ev) (hl : l.length < 100000000) : WF Try.prog cfg 57 [.sl (l.map evA)] H (fun r H' => r = .sl (l.map evA) ∧ H' = H) := by
  have hm : ∀ d, cfg.muF 57 d = (false) := fun _ => rfl
  have hz : ∀ d, cfg.fzF 57 d = (false) := fun _ => rfl
  have ht : ∀ d, cfg.tkF 57 d = (false) := fun _ => rfl
  have hr_ : ∀ g, cfg.raw g = (g == 33 || g == 41) := fun _ => rfl
  refine rF_fn rfl rfl Try.func57 rfl ?_
  repeat' first | simp (disch := first | omega | assumption | decide) only [go_sem, hm, hz, ht, hr_] | refine ifP_in (fun _ => ?_) fun _ => ?_
  refine rL_loop (σ := Nat) (fun i e K => K = H ∧ e 0 = .sl (l.map evA) ∧ e 3 = .sl ((l.take i).map evA) ∧ e 4 = .i i ∧ i ≤ l.length) (fun i => l.length - i) 0 ?_ ?_
  · refine ⟨rfl, ?_, ?_, ?_, by omega⟩
    all_goals first | (simp (disch := first | assumption | omega) only [go_sem]; done) | (simp (disch := first | assumption | omega) only [go_sem]; rfl)
  · rintro i e K ⟨hK, g0, g3, g4, i1⟩
    have hK := hK.symm
    subst hK
    by_cases hil : i < l.length
    · have hix := ix_at' hil
      have hs : l.take (i + 1) = l.take i ++ [l[i]] := List.take_succ_eq_append_getElem hil
      have ht1 : (l.take i).length ≤ 100000000 := by simp; omega
      have hx : ((evA l[i]).cells) = [AV.i l[i].at_, AV.i l[i].kind, AV.i l[i].keep, AV.i l[i].torn] := rfl
      have hagg : AV.agg [AV.i l[i].at_, AV.i l[i].kind, AV.i l[i].keep, AV.i l[i].torn] = evA l[i] := rfl
      have hck := cellsOK_of (f := evA) (n := 4) l[i]
      generalize l[i] = x at *
      repeat' first | simp (disch := first | omega | assumption | decide) only [go_sem, hm, hz, ht, hr_, g0, g3, g4, hix, hx, hagg, hck, wdl, bind_some_, map_some_, oneD_fold] | refine ifP_in (fun _ => ?_) fun _ => ?_
      exact ⟨i + 1, ⟨by rw [hs], rfl, by omega⟩, by omega⟩
    · have : i = l.length := by omega
      subst this
      rw [List.take_length] at g3
      repeat' first | simp (disch := first | omega | assumption | decide) only [go_sem, hm, hz, ht, hr_, g0, g3, g4, wdl, bind_some_, map_some_, oneD_fold] | refine ifP_in (fun _ => ?_) fun _ => ?_

def opV (o : DOp) : AV := .agg [.i o.kind, .i o.keep, .i o.torn, .i o.room, AV.str o.name, AV.str o.to, AV.bytes o.b, .sl (o.plan.map evA)]
instance : CellsN opV 8 := ⟨fun _ => rfl⟩
instance : OneOK opV := ⟨fun _ => rfl⟩
theorem cells_opV (o : DOp) : (opV o).cells = [.i o.kind, .i o.keep, .i o.torn, .i o.room, AV.str o.name, AV.str o.to, AV.bytes o.b, .sl (o.plan.map evA)] := rfl
/-- What an argument may be. -/
structure Big (o : DOp) : Prop where
  name : o.name.length ≤ 140737488355328
  to : o.to.length ≤ 140737488355328
  plan : o.plan.length ≤ 140737488355328
  b : o.b.length ≤ 140737488355328
theorem few_w (l : List DOp) (hl : l.length ≤ 140737488355328) (hbig : ∀ o ∈ l, Big o) : WF Try.prog cfg 21 [.sl (l.map opV)] H (fun r H' => (∃ t, r = .b t ∧ (t = true → l.length ≤ 100 ∧ ∀ o ∈ l, Small o)) ∧ H' = H) := by
  have hm : ∀ d, cfg.muF 21 d = (false) := fun _ => rfl
  have hz : ∀ d, cfg.fzF 21 d = (false) := fun _ => rfl
  have ht : ∀ d, cfg.tkF 21 d = (false) := fun _ => rfl
  have hr_ : ∀ g, cfg.raw g = (g == 33 || g == 41) := fun _ => rfl
  refine rF_fn rfl rfl Try.func21 rfl ?_
  repeat' first | simp (disch := first | omega | assumption | decide) only [go_sem, hm, hz, ht, hr_] | refine ifP_in (fun _ => ?_) fun _ => ?_
  refine rL_loop (σ := Nat) (fun i e K => K = H ∧ e 0 = .sl (l.map opV) ∧ (∃ n : Int, e 3 = .i n ∧ 0 ≤ n ∧ n ≤ 240000) ∧ e 4 = .i i ∧ i ≤ l.length ∧ i ≤ 100 ∧ ∀ o ∈ l.take i, Small o) (fun i => l.length - i) 0 ?_ ?_
  · refine ⟨rfl, ?_, ⟨0, ?_, by omega, by omega⟩, ?_, by omega, by omega, by simp⟩
    all_goals first | (simp (disch := first | assumption | omega) only [go_sem]; done) | (simp (disch := first | assumption | omega) only [go_sem]; rfl)
  · rintro i e K ⟨hK, g0, ⟨n, g3, n0, n1⟩, g4, i1, i3, i2⟩
    have hK := hK.symm
    subst hK
    by_cases hil : i < l.length
    · have hix := ix_at' hil
      have hs : l.take (i + 1) = l.take i ++ [l[i]] := List.take_succ_eq_append_getElem hil
      have hb := hbig _ (List.getElem_mem hil)
      generalize l[i] = o at *
      obtain ⟨b1, b2, b3, b4⟩ := hb
      by_cases h100 : i < 100
      · repeat' first | simp (disch := first | omega | assumption | decide) only [go_sem, hm, hz, ht, hr_, g0, g3, g4, hix, cells_opV, cells_str, AV.bytes, wdl, bind_some_, map_some_, oneD_fold] | refine ifP_in (fun _ => ?_) fun _ => ?_
        all_goals first
          | exact ⟨false, rfl, by simp⟩
          | (refine ⟨i + 1, ⟨⟨_, rfl, by omega, by omega⟩, rfl, by omega, by omega, fun p hp => ?_⟩, by omega⟩
             rw [hs, List.mem_append, List.mem_singleton] at hp
             rcases hp with hp | rfl
             · exact i2 p hp
             · exact ⟨by omega, by omega, by omega, by omega⟩)
      · have hgt : ¬ ((l.length : Int) ≤ 100) := by omega
        repeat' first | simp (disch := first | omega | assumption | decide) only [go_sem, hm, hz, ht, hr_, g0, g3, g4, wdl, bind_some_, map_some_, oneD_fold] | refine ifP_in (fun _ => ?_) fun _ => ?_
        exact ⟨false, rfl, by simp⟩
    · have : i = l.length := by omega
      subst this
      rw [List.take_length] at i2
      have hle : (l.length : Int) ≤ 100 := by omega
      repeat' first | simp (disch := first | omega | assumption | decide) only [go_sem, hm, hz, ht, hr_, g0, g3, g4, wdl, bind_some_, map_some_, oneD_fold] | refine ifP_in (fun _ => ?_) fun _ => ?_
      exact ⟨_, rfl, fun _ => ⟨i3, i2⟩⟩
end Jn
end Go.Proofs
/- Walks: an operation on both disks. -/
set_option linter.unusedVariables false
set_option linter.unusedSimpArgs false
namespace Go.Proofs
open Go.Lv
namespace Jn
open Dk (Files Bs Ch Ev)
open Dl (DOp Small Kept doesD doesR)
variable {H : Heap}

theorem Step.at_ {H H1 : Heap} {U U1 : List Nat} (hs : Step H U H1 U1) {p : Nat} (hp : p < H.length) (hu : p ∉ U) : H1[p]? = H[p]? ∧ p ∉ U1 := ⟨hs.same p hp hu, fun h => by
  rcases hs.new p h with h | h
  · exact hu h
  · omega⟩
structure Pair (H : Heap) (j k : Nat) (S T : List Nat) (s r : Dk.Disk) : Prop where
  hd : DiskAt H j S s
  hr : RefAt H k T r
  ap : ∀ x ∈ S, x ∉ T
theorem Pair.stepL {H H1 : Heap} {j k : Nat} {S T S1 : List Nat} {s r s1 : Dk.Disk} (h : Pair H j k S T s r) (hs : Step H S H1 S1) (hd1 : DiskAt H1 j S1 s1) : Pair H1 j k S1 T s1 r ∧ Step H (S ++ T) H1 (S1 ++ T) := by
  have hT := h.hr.lt
  refine ⟨⟨hd1, h.hr.same fun x hx => hs.same x (hT x hx) (fun hm => h.ap x hm hx), fun x hx hxT => ?_⟩, ⟨hs.len, fun i hi hS => hs.same i hi (fun hm => hS (List.mem_append_left _ hm)), fun x hx => ?_⟩⟩
  · rcases hs.new x hx with hm | hm
    · exact h.ap x hm hxT
    · have := hT x hxT; omega
  · rcases List.mem_append.1 hx with hx | hx
    · rcases hs.new x hx with hm | hm
      · exact .inl (List.mem_append_left _ hm)
      · exact .inr hm
    · exact .inl (List.mem_append_right _ hx)
theorem Pair.stepR {H H1 : Heap} {j k : Nat} {S T T1 : List Nat} {s r r1 : Dk.Disk} (h : Pair H j k S T s r) (hs : Step H T H1 T1) (hr1 : RefAt H1 k T1 r1) : Pair H1 j k S T1 s r1 ∧ Step H (S ++ T) H1 (S ++ T1) := by
  have hS := h.hd.lt
  refine ⟨⟨h.hd.same fun x hx => hs.same x (hS x hx) (h.ap x hx), hr1, fun x hx hxT => ?_⟩, ⟨hs.len, fun i hi hS => hs.same i hi (fun hm => hS (List.mem_append_right _ hm)), fun x hx => ?_⟩⟩
  · rcases hs.new x hxT with hm | hm
    · exact h.ap x hx hm
    · have := hS x hx; omega
  · rcases List.mem_append.1 hx with hx | hx
    · exact .inl (List.mem_append_left _ hx)
    · rcases hs.new x hx with hm | hm
      · exact .inl (List.mem_append_right _ hm)
      · exact .inr hm
theorem Pair.same {H H1 : Heap} {j k : Nat} {S T : List Nat} {s r : Dk.Disk} (h : Pair H j k S T s r) (he : ∀ x ∈ S ++ T, H1[x]? = H[x]?) : Pair H1 j k S T s r :=
  ⟨h.hd.same fun x hx => he x (List.mem_append_left _ hx), h.hr.same fun x hx => he x (List.mem_append_right _ hx), h.ap⟩
theorem Pair.lt {H : Heap} {j k : Nat} {S T : List Nat} {s r : Dk.Disk} (h : Pair H j k S T s r) : ∀ x ∈ S ++ T, x < H.length := fun x hx => by
  rcases List.mem_append.1 hx with hx | hx
  · exact h.hd.lt x hx
  · exact h.hr.lt x hx
theorem pre_same {H H1 : Heap} (hp : H <+: H1) {x : Nat} (hx : x < H.length) : H1[x]? = H[x]? := by
  obtain ⟨G, rfl⟩ := hp
  exact List.getElem?_append_left hx
theorem Pair.pre {H H1 : Heap} {j k : Nat} {S T : List Nat} {s r : Dk.Disk} (h : Pair H j k S T s r) (hp : H <+: H1) : Pair H1 j k S T s r := h.same fun x hx => pre_same hp (h.lt x hx)

theorem Kept.can {n : Int} {s r : Dk.Disk} (h : Kept n s r) (hn : n ≤ 1000) : Can s := ⟨h.live.two.ok, by have := h.calls; omega, by have := h.plan; omega⟩
theorem Kept.can2 {n : Int} {s r : Dk.Disk} (h : Kept n s r) (hn : n ≤ 1000) : Can2 s r := ⟨h.live, by have := h.calls; omega, by have := h.rplan; omega⟩
theorem Kept.evLen {n : Int} {s r : Dk.Disk} (h : Kept n s r) (hn : n ≤ 1000) : (Dk.events s).1.now.length ≤ 1000000 := by
  obtain ⟨h1, _, _⟩ := h.live.begun
  have := h1.lenNow
  have := h.calls
  omega
theorem Kept.nowLen {n : Int} {s r : Dk.Disk} (h : Kept n s r) (hn : n ≤ 1000) : s.now.length ≤ 1000000 ∧ r.now.length ≤ 1000000 ∧ Dk.used s.now ≤ 1073741824 ∧ Dk.used r.now ≤ 1073741824 := by
  have h1 := h.live.two.lenNow
  have h2 := h.live.two.nowR
  have h3 := h.calls
  have h4 := h.live.two.ok.used
  unfold Dk.Len at h4
  rw [h2.len, h2.used]
  exact ⟨by omega, by omega, h4, h4⟩
/-- The names of files in order. -/
theorem dnames_eq {g f : Files} (h : Dr.Rel g f) : dnames f = g.map (·.1) := by
  have hp : (f.map (·.1)).Perm (g.map (·.1)) := h.perm.symm.map _
  unfold dnames
  rw [mergeSort_of_perm hp]
  apply List.mergeSort_of_pairwise
  refine List.pairwise_map.2 (h.srt.imp fun {a b} hab => ?_)
  simpa [leB] using List.le_of_lt hab

theorem copyB_alt {b : Bs} (hb : b.length ≤ 140737488355328) : ∃ y H1, copyBA H [.sl (b.map byteA)] = some (y, H1) ∧ Reads H1 y b ∧ H <+: H1 ∧ ((b = [] ∧ y = .sl [] ∧ H1 = H) ∨ (y = .mr H.length 0 b.length 1 false ∧ H1 = H ++ [b.map byteA] ∧ 0 < b.length)) := by
  rcases Nat.eq_zero_or_pos b.length with h0 | h0
  · have : b = [] := List.eq_nil_of_length_eq_zero h0
    subst this
    exact ⟨_, _, rfl, .inl rfl, List.prefix_refl _, .inl ⟨rfl, rfl, rfl⟩⟩
  · refine ⟨.mr H.length 0 b.length 1 false, H ++ [b.map byteA], ?_, .inr ⟨H.length, 0, b, rfl, get_end_ _, by simp, h0⟩, List.prefix_append _ _, .inr ⟨rfl, rfl, h0⟩⟩
    simp only [copyBA, u8s_bytes, Option.bind_some]
    rw [if_neg (by rw [List.length_map]; omega), if_pos (by simpa using hb)]
    simp

theorem dlist_len {n : Int} {s r : Dk.Disk} (h : Kept n s r) (hn : n ≤ 1000) : (dlist s).2.1.length < 100000000 := by
  have h1 := Kept.evLen h hn
  unfold dlist
  have hcs : (Dk.call s []).1 = (Dk.events s).1 := rfl
  simp only
  split
  · simp
  · rw [hcs]; unfold dnames; rw [List.length_mergeSort, List.length_map]; omega
theorem rlist_len {n : Int} {s r : Dk.Disk} (h : Kept n s r) (hn : n ≤ 1000) : (Dr.list r).2.1.length < 100000000 := by
  have h1 := (Can2.begun (Kept.can2 h hn)).len
  unfold Dr.list
  have hcs : (Dr.begin r [] false).1 = (Dr.events r).1 := rfl
  simp only
  split
  · simp
  · rw [hcs, List.length_map]; omega
theorem dlist_fst {s : Dk.Disk} : (dlist s).1 = (Dk.call s []).1 := by
  unfold dlist
  simp only
  split <;> rfl
theorem dlist_eq {s r : Dk.Disk} (h : Dr.Live s r) : (dlist s).2 = (Dr.list r).2 := by
  obtain ⟨h1, h2, h3⟩ := h.begun
  unfold dlist Dr.list
  have hcs : (Dk.call s []).1 = (Dk.events s).1 := rfl
  simp only [h.begin0, hcs]
  split
  · rfl
  · rw [dnames_eq h1.nowR]
theorem Step.off_ {H H1 H2 : Heap} {U U1 : List Nat} (hs : Step H U H1 U1) (hl : H1.length ≤ H2.length) (he : ∀ x, x < H.length → H2[x]? = H1[x]?) : Step H U H2 U1 :=
  ⟨Nat.le_trans hs.len hl, fun x hx hU => by rw [he x hx]; exact hs.same x hx hU, hs.new⟩
set_option maxHeartbeats 4000000 in
theorem does_w' {j k : Nat} {S T : List Nat} {n n' : Int} {s r s0 r0 : Dk.Disk} (hp : Pair H j k S T s r) (hk1 : Kept n s r0) (hk2 : Kept n' s0 r) (hn : n ≤ 1000) (hn' : n' ≤ 1000) (o : DOp) (ho : Small o) :
    WF Try.prog cfg 24 [.ptr j 0, .ptr k 0, opV o] H (fun v H' => ∃ t, v = .b t ∧ (Dr.Live s r → t = true) ∧ ∃ S' T', Pair H' j k S' T' (doesD s o) (doesR r o) ∧ Step H (S ++ T) H' (S' ++ T')) := by
  have hone := OneOK.h (f := opV) o
  have hcells : (opV o).cells.length = 8 := rfl
  obtain ⟨o1, o2, o3, o4⟩ := ho
  have hm : ∀ d, cfg.muF 24 d = (d == 7 || d == 20) := fun _ => rfl
  have hz : ∀ d, cfg.fzF 24 d = (false) := fun _ => rfl
  have ht : ∀ d, cfg.tkF 24 d = (false) := fun _ => rfl
  have hr_ : ∀ g, cfg.raw g = (g == 33 || g == 41) := fun _ => rfl
  refine rF_fn rfl rfl Try.func24 rfl ?_
  have hb : (H ++ [(opV o).cells])[H.length]? = some [.i o.kind, .i o.keep, .i o.torn, .i o.room, AV.str o.name, AV.str o.to, AV.bytes o.b, .sl (o.plan.map evA)] := end_get H (opV o).cells
  have hpre : H <+: H ++ [(opV o).cells] := List.prefix_append _ _
  have hl1 : (H ++ [(opV o).cells]).length = H.length + 1 := by simp
  generalize hH1 : H ++ [(opV o).cells] = H1 at *
  have hp1 := hp.pre hpre
  repeat' first | simp (disch := first | omega | assumption | decide) only [go_sem, hm, hz, ht, hr_, hone, hH1, hb, AV.bytes, wdl, bind_some_, map_some_, oneD_fold] | refine ifP_in (fun _ => ?_) fun _ => ?_
  obtain ⟨y, H2, hcp, hry, hp2, hyc⟩ := copyB_alt (H := H1) o4
  refine rFalt_some rfl hcp ?_
  have hp02 := hpre.trans hp2
  have hpair := hp.pre hp02
  have hlt := hp.lt
  have hb2 := pre_get hp2 hb
  have hl2 := pre_len hp2
  have hoff : Off y (S ++ T) := by
    rintro k0 off len n0 g hy hm
    have := hlt k0 hm
    rcases hyc with ⟨_, rfl, _⟩ | ⟨rfl, _⟩
    · cases hy
    · injection hy with hy; omega
  have hboxU : H.length ∉ S ++ T := fun hm => by have := hlt _ hm; omega
  have hboxl : H.length < H2.length := (List.getElem?_eq_some_iff.1 hb2).1
  have hoffS : Off y S := fun k0 off len n0 g hy hm => hoff k0 off len n0 g hy (List.mem_append_left _ hm)
  have hpy : plainA y = y := hry.plain
  have hst0 : Step H (S ++ T) H2 (S ++ T) := Step.grew (pre_len hp02) fun x hx => pre_same hp02 hx
  by_cases c0 : o.kind = 0
  · have eD : doesD s o = (Dk.write s o.name o.b).1 := by simp [doesD, c0]
    have eR : doesR r o = (Dr.write r o.name o.b).1 := by simp [doesR, c0]
    rw [eD, eR]
    rw [c0] at hb2
    repeat' first | simp (disch := first | omega | assumption | decide) only [go_sem, hm, hz, ht, hr_, hb2, hpy, AV.bytes, wdl, bind_some_, map_some_, oneD_fold] | refine ifP_in (fun _ => ?_) fun _ => ?_
    refine rF_use (write_r hpair.hd (Kept.can hk1 hn) o.name o.b (by omega) (by omega) hry hoffS) ?_
    rintro _ H3 ⟨rfl, S3, hd3, hs3⟩
    obtain ⟨hpair3, hst3⟩ := hpair.stepL hs3 hd3
    have hb3 := (hst3.at_ hboxl hboxU).1.trans hb2
    repeat' first | simp (disch := first | omega | assumption | decide) only [go_sem, hm, hz, ht, hr_, hb2, hb3, hpy, AV.bytes, wdl, bind_some_, map_some_, oneD_fold] | refine ifP_in (fun _ => ?_) fun _ => ?_
    refine rF_use (rwrite_w hpair3.hr (Kept.can2 hk2 hn') o.name o.b (by omega) (by omega)) ?_
    rintro _ H4 ⟨rfl, T4, hr4, hs4⟩
    obtain ⟨hpair4, hst4⟩ := hpair3.stepR hs4 hr4
    have hst := hst3.trans hst4
    have hb4 := (hst.at_ hboxl hboxU).1.trans hb2
    have hans : Dr.Live s r → (Dk.write s o.name o.b).2 = (Dr.write r o.name o.b).2 := fun hl => (hl.write _ _).2.symm
    repeat' first | simp (disch := first | omega | assumption | decide) only [go_sem, hm, hz, ht, hr_, hb2, hb3, hb4, hpy, AV.bytes, wdl, bind_some_, map_some_, oneD_fold] | refine ifP_in (fun _ => ?_) fun _ => ?_
    have hry4 := hry.step hoff hst
    refine rF_use (lbytes_w o.b o.b hry4 (.inl rfl)) ?_
    rintro _ H6 ⟨rfl, rfl⟩
    rw [decide_eq_true (rfl : o.b = o.b)]
    rcases hyc with ⟨hb0, rfl, hH2⟩ | ⟨rfl, hH2, hbl⟩
    · repeat' first | simp (disch := first | omega | assumption | decide) only [go_sem, hm, hz, ht, hr_, hb2, hb4, hpy, AV.bytes, wdl, bind_some_, map_some_, oneD_fold] | refine ifP_in (fun _ => ?_) fun _ => ?_
      refine rL_loop (σ := Nat) (fun i e K => K = H6 ∧ (∃ t, e 8 = .b t ∧ (Dr.Live s r → t = true)) ∧ e 7 = .sl [] ∧ e 17 = .i 0) (fun i => i) 0 ?_ ?_
      · refine ⟨rfl, ⟨_, ?_, fun hl => decide_eq_true (hans hl)⟩, ?_, ?_⟩
        all_goals first | (simp (disch := first | assumption | omega) only [go_sem]; done) | (simp (disch := first | assumption | omega) only [go_sem]; rfl)
      · rintro i e K ⟨hK, ⟨t, g8, ht1⟩, g7, g17⟩
        have hK := hK.symm
        subst hK
        repeat' first | simp (disch := first | omega | assumption | decide) only [go_sem, hm, hz, ht, hr_, g7, g8, g17, wdl, bind_some_, map_some_, oneD_fold] | refine ifP_in (fun _ => ?_) fun _ => ?_
        exact ⟨t, rfl, ht1, _, _, hpair4, hst0.trans hst⟩
    · have hk0 : H1.length ∉ S ++ T := fun hm => by have := hlt _ hm; omega
      have hk0l : H1.length < H2.length := by rw [hH2]; simp
      obtain ⟨hrow0, hk0u⟩ := hst.at_ hk0l hk0
      have hrow : H6[H1.length]? = some (o.b.map byteA) := by rw [hrow0, hH2]; exact get_end_ _
      repeat' first | simp (disch := first | omega | assumption | decide) only [go_sem, hm, hz, ht, hr_, hb2, hb4, hpy, AV.bytes, wdl, bind_some_, map_some_, oneD_fold] | refine ifP_in (fun _ => ?_) fun _ => ?_
      refine rL_loop (σ := Nat) (fun i e K => (∃ t, e 8 = .b t ∧ (Dr.Live s r → t = true)) ∧ e 7 = .mr H1.length 0 o.b.length 1 false ∧ e 17 = .i i ∧ i ≤ o.b.length ∧ K.length = H6.length ∧ (∀ x, x ≠ H1.length → K[x]? = H6[x]?) ∧ ∃ xs : Bs, xs.length = o.b.length ∧ K[H1.length]? = some (xs.map byteA)) (fun i => o.b.length - i) 0 ?_ ?_
      · refine ⟨⟨_, ?_, fun hl => decide_eq_true (hans hl)⟩, ?_, ?_, by omega, rfl, fun _ _ => rfl, _, rfl, hrow⟩
        all_goals first | (simp (disch := first | assumption | omega) only [go_sem]; done) | (simp (disch := first | assumption | omega) only [go_sem]; rfl)
      · rintro i e K ⟨⟨t, g8, ht1⟩, g7, g17, i1, i2, i3, xs, x1, x2⟩
        by_cases hil : i < o.b.length
        · have hxi : xs[i]? = some xs[i] := List.getElem?_eq_getElem (by omega)
          have hwr := wrap_put ((xs[i]'(by omega)).toNat + 1) 0
          simp only [Int.pow_zero, Int.ediv_one, Nat.pow_zero, Nat.div_one] at hwr
          have hby : AV.v (.int .u8 (IntKind.u8.wrap (((xs[i]'(by omega)).toNat : Int) + 1))) = byteA (UInt8.ofNat ((xs[i]'(by omega)).toNat + 1)) := by rw [← hwr]; push_cast; rfl
          generalize xs[i]'(by omega) = v at *
          repeat' first | simp (disch := first | omega | assumption | decide) only [go_sem, hm, hz, ht, hr_, g7, g8, g17, x2, hxi, plainD_map, partD_map] | refine ifP_in (fun _ => ?_) fun _ => ?_
          rw [hby, store_row x2 (by omega), bindP_some]
          have hKl : H1.length < K.length := (List.getElem?_eq_some_iff.1 x2).1
          repeat' first | simp (disch := first | omega | assumption | decide) only [go_sem, hm, hz, ht, hr_, g7, g8, g17] | refine ifP_in (fun _ => ?_) fun _ => ?_
          exact ⟨i + 1, ⟨⟨t, rfl, ht1⟩, rfl, by omega, by simpa using i2, fun x hx => by rw [get_set_ne_ (fun e => hx e.symm)]; exact i3 x hx, xs.set i (UInt8.ofNat (v.toNat + 1)), by simpa using x1, get_set hKl⟩, by omega⟩
        · have : i = o.b.length := by omega
          subst this
          repeat' first | simp (disch := first | omega | assumption | decide) only [go_sem, hm, hz, ht, hr_, g7, g8, g17, wdl, bind_some_, map_some_, oneD_fold] | refine ifP_in (fun _ => ?_) fun _ => ?_
          refine ⟨t, rfl, ht1, _, _, hpair4.same fun x hx => i3 x (fun e => hk0u (by rw [← e]; exact hx)), ?_⟩
          refine (hst0.trans hst).off_ (by omega) fun x hx => i3 x ?_
          rintro rfl; omega
  by_cases c1 : o.kind = 1
  · have eD : doesD s o = (Dk.append s o.name o.b).1 := by simp [doesD, c1]
    have eR : doesR r o = (Dr.append r o.name o.b).1 := by simp [doesR, c1]
    rw [eD, eR]
    rw [c1] at hb2
    repeat' first | simp (disch := first | omega | assumption | decide) only [go_sem, hm, hz, ht, hr_, hb2, hpy, AV.bytes, wdl, bind_some_, map_some_, oneD_fold] | refine ifP_in (fun _ => ?_) fun _ => ?_
    refine rF_use (append_r hpair.hd (Kept.can hk1 hn) o.name o.b (by omega) (by omega) hry hoffS) ?_
    rintro _ H3 ⟨rfl, S3, hd3, hs3⟩
    obtain ⟨hpair3, hst3⟩ := hpair.stepL hs3 hd3
    have hb3 := (hst3.at_ hboxl hboxU).1.trans hb2
    repeat' first | simp (disch := first | omega | assumption | decide) only [go_sem, hm, hz, ht, hr_, hb2, hb3, hpy, AV.bytes, wdl, bind_some_, map_some_, oneD_fold] | refine ifP_in (fun _ => ?_) fun _ => ?_
    refine rF_use (rappend_w hpair3.hr (Kept.can2 hk2 hn') o.name o.b (by omega) (by omega)) ?_
    rintro _ H4 ⟨rfl, T4, hr4, hs4⟩
    obtain ⟨hpair4, hst4⟩ := hpair3.stepR hs4 hr4
    have hst := hst3.trans hst4
    have hb4 := (hst.at_ hboxl hboxU).1.trans hb2
    have hans : Dr.Live s r → (Dk.append s o.name o.b).2 = (Dr.append r o.name o.b).2 := fun hl => (hl.append _ _).2.symm
    repeat' first | simp (disch := first | omega | assumption | decide) only [go_sem, hm, hz, ht, hr_, hb2, hb3, hb4, hpy, AV.bytes, wdl, bind_some_, map_some_, oneD_fold] | refine ifP_in (fun _ => ?_) fun _ => ?_
    have hry4 := hry.step hoff hst
    refine rF_use (lbytes_w o.b o.b hry4 (.inl rfl)) ?_
    rintro _ H6 ⟨rfl, rfl⟩
    rw [decide_eq_true (rfl : o.b = o.b)]
    rcases hyc with ⟨hb0, rfl, hH2⟩ | ⟨rfl, hH2, hbl⟩
    · repeat' first | simp (disch := first | omega | assumption | decide) only [go_sem, hm, hz, ht, hr_, hb2, hb4, hpy, AV.bytes, wdl, bind_some_, map_some_, oneD_fold] | refine ifP_in (fun _ => ?_) fun _ => ?_
      refine rL_loop (σ := Nat) (fun i e K => K = H6 ∧ (∃ t, e 8 = .b t ∧ (Dr.Live s r → t = true)) ∧ e 7 = .sl [] ∧ e 17 = .i 0) (fun i => i) 0 ?_ ?_
      · refine ⟨rfl, ⟨_, ?_, fun hl => decide_eq_true (hans hl)⟩, ?_, ?_⟩
        all_goals first | (simp (disch := first | assumption | omega) only [go_sem]; done) | (simp (disch := first | assumption | omega) only [go_sem]; rfl)
      · rintro i e K ⟨hK, ⟨t, g8, ht1⟩, g7, g17⟩
        have hK := hK.symm
        subst hK
        repeat' first | simp (disch := first | omega | assumption | decide) only [go_sem, hm, hz, ht, hr_, g7, g8, g17, wdl, bind_some_, map_some_, oneD_fold] | refine ifP_in (fun _ => ?_) fun _ => ?_
        exact ⟨t, rfl, ht1, _, _, hpair4, hst0.trans hst⟩
    · have hk0 : H1.length ∉ S ++ T := fun hm => by have := hlt _ hm; omega
      have hk0l : H1.length < H2.length := by rw [hH2]; simp
      obtain ⟨hrow0, hk0u⟩ := hst.at_ hk0l hk0
      have hrow : H6[H1.length]? = some (o.b.map byteA) := by rw [hrow0, hH2]; exact get_end_ _
      repeat' first | simp (disch := first | omega | assumption | decide) only [go_sem, hm, hz, ht, hr_, hb2, hb4, hpy, AV.bytes, wdl, bind_some_, map_some_, oneD_fold] | refine ifP_in (fun _ => ?_) fun _ => ?_
      refine rL_loop (σ := Nat) (fun i e K => (∃ t, e 8 = .b t ∧ (Dr.Live s r → t = true)) ∧ e 7 = .mr H1.length 0 o.b.length 1 false ∧ e 17 = .i i ∧ i ≤ o.b.length ∧ K.length = H6.length ∧ (∀ x, x ≠ H1.length → K[x]? = H6[x]?) ∧ ∃ xs : Bs, xs.length = o.b.length ∧ K[H1.length]? = some (xs.map byteA)) (fun i => o.b.length - i) 0 ?_ ?_
      · refine ⟨⟨_, ?_, fun hl => decide_eq_true (hans hl)⟩, ?_, ?_, by omega, rfl, fun _ _ => rfl, _, rfl, hrow⟩
        all_goals first | (simp (disch := first | assumption | omega) only [go_sem]; done) | (simp (disch := first | assumption | omega) only [go_sem]; rfl)
      · rintro i e K ⟨⟨t, g8, ht1⟩, g7, g17, i1, i2, i3, xs, x1, x2⟩
        by_cases hil : i < o.b.length
        · have hxi : xs[i]? = some xs[i] := List.getElem?_eq_getElem (by omega)
          have hwr := wrap_put ((xs[i]'(by omega)).toNat + 1) 0
          simp only [Int.pow_zero, Int.ediv_one, Nat.pow_zero, Nat.div_one] at hwr
          have hby : AV.v (.int .u8 (IntKind.u8.wrap (((xs[i]'(by omega)).toNat : Int) + 1))) = byteA (UInt8.ofNat ((xs[i]'(by omega)).toNat + 1)) := by rw [← hwr]; push_cast; rfl
          generalize xs[i]'(by omega) = v at *
          repeat' first | simp (disch := first | omega | assumption | decide) only [go_sem, hm, hz, ht, hr_, g7, g8, g17, x2, hxi, plainD_map, partD_map] | refine ifP_in (fun _ => ?_) fun _ => ?_
          rw [hby, store_row x2 (by omega), bindP_some]
          have hKl : H1.length < K.length := (List.getElem?_eq_some_iff.1 x2).1
          repeat' first | simp (disch := first | omega | assumption | decide) only [go_sem, hm, hz, ht, hr_, g7, g8, g17] | refine ifP_in (fun _ => ?_) fun _ => ?_
          exact ⟨i + 1, ⟨⟨t, rfl, ht1⟩, rfl, by omega, by simpa using i2, fun x hx => by rw [get_set_ne_ (fun e => hx e.symm)]; exact i3 x hx, xs.set i (UInt8.ofNat (v.toNat + 1)), by simpa using x1, get_set hKl⟩, by omega⟩
        · have : i = o.b.length := by omega
          subst this
          repeat' first | simp (disch := first | omega | assumption | decide) only [go_sem, hm, hz, ht, hr_, g7, g8, g17, wdl, bind_some_, map_some_, oneD_fold] | refine ifP_in (fun _ => ?_) fun _ => ?_
          refine ⟨t, rfl, ht1, _, _, hpair4.same fun x hx => i3 x (fun e => hk0u (by rw [← e]; exact hx)), ?_⟩
          refine (hst0.trans hst).off_ (by omega) fun x hx => i3 x ?_
          rintro rfl; omega
  by_cases c2 : o.kind = 2
  · have eD : doesD s o = (Dk.rename s o.name o.to).1 := by simp [doesD, c2]
    have eR : doesR r o = (Dr.rename r o.name o.to).1 := by simp [doesR, c2]
    rw [eD, eR]
    rw [c2] at hb2
    repeat' first | simp (disch := first | omega | assumption | decide) only [go_sem, hm, hz, ht, hr_, hb2, hpy, AV.bytes, wdl, bind_some_, map_some_, oneD_fold] | refine ifP_in (fun _ => ?_) fun _ => ?_
    refine rF_use (rename_w hpair.hd (Kept.can hk1 hn) o.name o.to (by omega) (by omega)) ?_
    rintro _ H3 ⟨rfl, S3, hd3, hs3⟩
    obtain ⟨hpair3, hst3⟩ := hpair.stepL hs3 hd3
    have hb3 := (hst3.at_ hboxl hboxU).1.trans hb2
    repeat' first | simp (disch := first | omega | assumption | decide) only [go_sem, hm, hz, ht, hr_, hb2, hb3, hpy, AV.bytes, wdl, bind_some_, map_some_, oneD_fold] | refine ifP_in (fun _ => ?_) fun _ => ?_
    refine rF_use (rrename_w hpair3.hr (Kept.can2 hk2 hn') o.name o.to (by omega) (by omega)) ?_
    rintro _ H4 ⟨rfl, T4, hr4, hs4⟩
    obtain ⟨hpair4, hst4⟩ := hpair3.stepR hs4 hr4
    have hst := hst3.trans hst4
    have hb4 := (hst.at_ hboxl hboxU).1.trans hb2
    have hans : Dr.Live s r → (Dk.rename s o.name o.to).2 = (Dr.rename r o.name o.to).2 := fun hl => (hl.rename _ _).2.symm
    repeat' first | simp (disch := first | omega | assumption | decide) only [go_sem, hm, hz, ht, hr_, hb2, hb3, hb4, hpy, AV.bytes, wdl, bind_some_, map_some_, oneD_fold] | refine ifP_in (fun _ => ?_) fun _ => ?_
    have hry4 := hry.step hoff hst
    refine rF_use (lbytes_w o.b o.b hry4 (.inl rfl)) ?_
    rintro _ H6 ⟨rfl, rfl⟩
    rw [decide_eq_true (rfl : o.b = o.b)]
    rcases hyc with ⟨hb0, rfl, hH2⟩ | ⟨rfl, hH2, hbl⟩
    · repeat' first | simp (disch := first | omega | assumption | decide) only [go_sem, hm, hz, ht, hr_, hb2, hb4, hpy, AV.bytes, wdl, bind_some_, map_some_, oneD_fold] | refine ifP_in (fun _ => ?_) fun _ => ?_
      refine rL_loop (σ := Nat) (fun i e K => K = H6 ∧ (∃ t, e 8 = .b t ∧ (Dr.Live s r → t = true)) ∧ e 7 = .sl [] ∧ e 17 = .i 0) (fun i => i) 0 ?_ ?_
      · refine ⟨rfl, ⟨_, ?_, fun hl => decide_eq_true (hans hl)⟩, ?_, ?_⟩
        all_goals first | (simp (disch := first | assumption | omega) only [go_sem]; done) | (simp (disch := first | assumption | omega) only [go_sem]; rfl)
      · rintro i e K ⟨hK, ⟨t, g8, ht1⟩, g7, g17⟩
        have hK := hK.symm
        subst hK
        repeat' first | simp (disch := first | omega | assumption | decide) only [go_sem, hm, hz, ht, hr_, g7, g8, g17, wdl, bind_some_, map_some_, oneD_fold] | refine ifP_in (fun _ => ?_) fun _ => ?_
        exact ⟨t, rfl, ht1, _, _, hpair4, hst0.trans hst⟩
    · have hk0 : H1.length ∉ S ++ T := fun hm => by have := hlt _ hm; omega
      have hk0l : H1.length < H2.length := by rw [hH2]; simp
      obtain ⟨hrow0, hk0u⟩ := hst.at_ hk0l hk0
      have hrow : H6[H1.length]? = some (o.b.map byteA) := by rw [hrow0, hH2]; exact get_end_ _
      repeat' first | simp (disch := first | omega | assumption | decide) only [go_sem, hm, hz, ht, hr_, hb2, hb4, hpy, AV.bytes, wdl, bind_some_, map_some_, oneD_fold] | refine ifP_in (fun _ => ?_) fun _ => ?_
      refine rL_loop (σ := Nat) (fun i e K => (∃ t, e 8 = .b t ∧ (Dr.Live s r → t = true)) ∧ e 7 = .mr H1.length 0 o.b.length 1 false ∧ e 17 = .i i ∧ i ≤ o.b.length ∧ K.length = H6.length ∧ (∀ x, x ≠ H1.length → K[x]? = H6[x]?) ∧ ∃ xs : Bs, xs.length = o.b.length ∧ K[H1.length]? = some (xs.map byteA)) (fun i => o.b.length - i) 0 ?_ ?_
      · refine ⟨⟨_, ?_, fun hl => decide_eq_true (hans hl)⟩, ?_, ?_, by omega, rfl, fun _ _ => rfl, _, rfl, hrow⟩
        all_goals first | (simp (disch := first | assumption | omega) only [go_sem]; done) | (simp (disch := first | assumption | omega) only [go_sem]; rfl)
      · rintro i e K ⟨⟨t, g8, ht1⟩, g7, g17, i1, i2, i3, xs, x1, x2⟩
        by_cases hil : i < o.b.length
        · have hxi : xs[i]? = some xs[i] := List.getElem?_eq_getElem (by omega)
          have hwr := wrap_put ((xs[i]'(by omega)).toNat + 1) 0
          simp only [Int.pow_zero, Int.ediv_one, Nat.pow_zero, Nat.div_one] at hwr
          have hby : AV.v (.int .u8 (IntKind.u8.wrap (((xs[i]'(by omega)).toNat : Int) + 1))) = byteA (UInt8.ofNat ((xs[i]'(by omega)).toNat + 1)) := by rw [← hwr]; push_cast; rfl
          generalize xs[i]'(by omega) = v at *
          repeat' first | simp (disch := first | omega | assumption | decide) only [go_sem, hm, hz, ht, hr_, g7, g8, g17, x2, hxi, plainD_map, partD_map] | refine ifP_in (fun _ => ?_) fun _ => ?_
          rw [hby, store_row x2 (by omega), bindP_some]
          have hKl : H1.length < K.length := (List.getElem?_eq_some_iff.1 x2).1
          repeat' first | simp (disch := first | omega | assumption | decide) only [go_sem, hm, hz, ht, hr_, g7, g8, g17] | refine ifP_in (fun _ => ?_) fun _ => ?_
          exact ⟨i + 1, ⟨⟨t, rfl, ht1⟩, rfl, by omega, by simpa using i2, fun x hx => by rw [get_set_ne_ (fun e => hx e.symm)]; exact i3 x hx, xs.set i (UInt8.ofNat (v.toNat + 1)), by simpa using x1, get_set hKl⟩, by omega⟩
        · have : i = o.b.length := by omega
          subst this
          repeat' first | simp (disch := first | omega | assumption | decide) only [go_sem, hm, hz, ht, hr_, g7, g8, g17, wdl, bind_some_, map_some_, oneD_fold] | refine ifP_in (fun _ => ?_) fun _ => ?_
          refine ⟨t, rfl, ht1, _, _, hpair4.same fun x hx => i3 x (fun e => hk0u (by rw [← e]; exact hx)), ?_⟩
          refine (hst0.trans hst).off_ (by omega) fun x hx => i3 x ?_
          rintro rfl; omega
  by_cases c3 : o.kind = 3
  · have eD : doesD s o = (Dk.delete s o.name).1 := by simp [doesD, c3]
    have eR : doesR r o = (Dr.delete r o.name).1 := by simp [doesR, c3]
    rw [eD, eR]
    rw [c3] at hb2
    repeat' first | simp (disch := first | omega | assumption | decide) only [go_sem, hm, hz, ht, hr_, hb2, hpy, AV.bytes, wdl, bind_some_, map_some_, oneD_fold] | refine ifP_in (fun _ => ?_) fun _ => ?_
    refine rF_use (delete_w hpair.hd (Kept.can hk1 hn) o.name (by omega)) ?_
    rintro _ H3 ⟨rfl, S3, hd3, hs3⟩
    obtain ⟨hpair3, hst3⟩ := hpair.stepL hs3 hd3
    have hb3 := (hst3.at_ hboxl hboxU).1.trans hb2
    repeat' first | simp (disch := first | omega | assumption | decide) only [go_sem, hm, hz, ht, hr_, hb2, hb3, hpy, AV.bytes, wdl, bind_some_, map_some_, oneD_fold] | refine ifP_in (fun _ => ?_) fun _ => ?_
    refine rF_use (rdelete_w hpair3.hr (Kept.can2 hk2 hn') o.name (by omega)) ?_
    rintro _ H4 ⟨rfl, T4, hr4, hs4⟩
    obtain ⟨hpair4, hst4⟩ := hpair3.stepR hs4 hr4
    have hst := hst3.trans hst4
    have hb4 := (hst.at_ hboxl hboxU).1.trans hb2
    have hans : Dr.Live s r → (Dk.delete s o.name).2 = (Dr.delete r o.name).2 := fun hl => (hl.delete _).2.symm
    repeat' first | simp (disch := first | omega | assumption | decide) only [go_sem, hm, hz, ht, hr_, hb2, hb3, hb4, hpy, AV.bytes, wdl, bind_some_, map_some_, oneD_fold] | refine ifP_in (fun _ => ?_) fun _ => ?_
    have hry4 := hry.step hoff hst
    refine rF_use (lbytes_w o.b o.b hry4 (.inl rfl)) ?_
    rintro _ H6 ⟨rfl, rfl⟩
    rw [decide_eq_true (rfl : o.b = o.b)]
    rcases hyc with ⟨hb0, rfl, hH2⟩ | ⟨rfl, hH2, hbl⟩
    · repeat' first | simp (disch := first | omega | assumption | decide) only [go_sem, hm, hz, ht, hr_, hb2, hb4, hpy, AV.bytes, wdl, bind_some_, map_some_, oneD_fold] | refine ifP_in (fun _ => ?_) fun _ => ?_
      refine rL_loop (σ := Nat) (fun i e K => K = H6 ∧ (∃ t, e 8 = .b t ∧ (Dr.Live s r → t = true)) ∧ e 7 = .sl [] ∧ e 17 = .i 0) (fun i => i) 0 ?_ ?_
      · refine ⟨rfl, ⟨_, ?_, fun hl => decide_eq_true (hans hl)⟩, ?_, ?_⟩
        all_goals first | (simp (disch := first | assumption | omega) only [go_sem]; done) | (simp (disch := first | assumption | omega) only [go_sem]; rfl)
      · rintro i e K ⟨hK, ⟨t, g8, ht1⟩, g7, g17⟩
        have hK := hK.symm
        subst hK
        repeat' first | simp (disch := first | omega | assumption | decide) only [go_sem, hm, hz, ht, hr_, g7, g8, g17, wdl, bind_some_, map_some_, oneD_fold] | refine ifP_in (fun _ => ?_) fun _ => ?_
        exact ⟨t, rfl, ht1, _, _, hpair4, hst0.trans hst⟩
    · have hk0 : H1.length ∉ S ++ T := fun hm => by have := hlt _ hm; omega
      have hk0l : H1.length < H2.length := by rw [hH2]; simp
      obtain ⟨hrow0, hk0u⟩ := hst.at_ hk0l hk0
      have hrow : H6[H1.length]? = some (o.b.map byteA) := by rw [hrow0, hH2]; exact get_end_ _
      repeat' first | simp (disch := first | omega | assumption | decide) only [go_sem, hm, hz, ht, hr_, hb2, hb4, hpy, AV.bytes, wdl, bind_some_, map_some_, oneD_fold] | refine ifP_in (fun _ => ?_) fun _ => ?_
      refine rL_loop (σ := Nat) (fun i e K => (∃ t, e 8 = .b t ∧ (Dr.Live s r → t = true)) ∧ e 7 = .mr H1.length 0 o.b.length 1 false ∧ e 17 = .i i ∧ i ≤ o.b.length ∧ K.length = H6.length ∧ (∀ x, x ≠ H1.length → K[x]? = H6[x]?) ∧ ∃ xs : Bs, xs.length = o.b.length ∧ K[H1.length]? = some (xs.map byteA)) (fun i => o.b.length - i) 0 ?_ ?_
      · refine ⟨⟨_, ?_, fun hl => decide_eq_true (hans hl)⟩, ?_, ?_, by omega, rfl, fun _ _ => rfl, _, rfl, hrow⟩
        all_goals first | (simp (disch := first | assumption | omega) only [go_sem]; done) | (simp (disch := first | assumption | omega) only [go_sem]; rfl)
      · rintro i e K ⟨⟨t, g8, ht1⟩, g7, g17, i1, i2, i3, xs, x1, x2⟩
        by_cases hil : i < o.b.length
        · have hxi : xs[i]? = some xs[i] := List.getElem?_eq_getElem (by omega)
          have hwr := wrap_put ((xs[i]'(by omega)).toNat + 1) 0
          simp only [Int.pow_zero, Int.ediv_one, Nat.pow_zero, Nat.div_one] at hwr
          have hby : AV.v (.int .u8 (IntKind.u8.wrap (((xs[i]'(by omega)).toNat : Int) + 1))) = byteA (UInt8.ofNat ((xs[i]'(by omega)).toNat + 1)) := by rw [← hwr]; push_cast; rfl
          generalize xs[i]'(by omega) = v at *
          repeat' first | simp (disch := first | omega | assumption | decide) only [go_sem, hm, hz, ht, hr_, g7, g8, g17, x2, hxi, plainD_map, partD_map] | refine ifP_in (fun _ => ?_) fun _ => ?_
          rw [hby, store_row x2 (by omega), bindP_some]
          have hKl : H1.length < K.length := (List.getElem?_eq_some_iff.1 x2).1
          repeat' first | simp (disch := first | omega | assumption | decide) only [go_sem, hm, hz, ht, hr_, g7, g8, g17] | refine ifP_in (fun _ => ?_) fun _ => ?_
          exact ⟨i + 1, ⟨⟨t, rfl, ht1⟩, rfl, by omega, by simpa using i2, fun x hx => by rw [get_set_ne_ (fun e => hx e.symm)]; exact i3 x hx, xs.set i (UInt8.ofNat (v.toNat + 1)), by simpa using x1, get_set hKl⟩, by omega⟩
        · have : i = o.b.length := by omega
          subst this
          repeat' first | simp (disch := first | omega | assumption | decide) only [go_sem, hm, hz, ht, hr_, g7, g8, g17, wdl, bind_some_, map_some_, oneD_fold] | refine ifP_in (fun _ => ?_) fun _ => ?_
          refine ⟨t, rfl, ht1, _, _, hpair4.same fun x hx => i3 x (fun e => hk0u (by rw [← e]; exact hx)), ?_⟩
          refine (hst0.trans hst).off_ (by omega) fun x hx => i3 x ?_
          rintro rfl; omega
  by_cases c4 : o.kind = 4
  · have eD : doesD s o = (Dk.sync s).1 := by simp [doesD, c4]
    have eR : doesR r o = (Dr.sync r).1 := by simp [doesR, c4]
    rw [eD, eR]
    rw [c4] at hb2
    repeat' first | simp (disch := first | omega | assumption | decide) only [go_sem, hm, hz, ht, hr_, hb2, hpy, AV.bytes, wdl, bind_some_, map_some_, oneD_fold] | refine ifP_in (fun _ => ?_) fun _ => ?_
    refine rF_use (sync_w hpair.hd (Kept.can hk1 hn)) ?_
    rintro _ H3 ⟨rfl, S3, hd3, hs3⟩
    obtain ⟨hpair3, hst3⟩ := hpair.stepL hs3 hd3
    have hb3 := (hst3.at_ hboxl hboxU).1.trans hb2
    repeat' first | simp (disch := first | omega | assumption | decide) only [go_sem, hm, hz, ht, hr_, hb2, hb3, hpy, AV.bytes, wdl, bind_some_, map_some_, oneD_fold] | refine ifP_in (fun _ => ?_) fun _ => ?_
    refine rF_use (rsync_w hpair3.hr (Kept.can2 hk2 hn')) ?_
    rintro _ H4 ⟨rfl, T4, hr4, hs4⟩
    obtain ⟨hpair4, hst4⟩ := hpair3.stepR hs4 hr4
    have hst := hst3.trans hst4
    have hb4 := (hst.at_ hboxl hboxU).1.trans hb2
    have hans : Dr.Live s r → (Dk.sync s).2 = (Dr.sync r).2 := fun hl => hl.sync.2.symm
    repeat' first | simp (disch := first | omega | assumption | decide) only [go_sem, hm, hz, ht, hr_, hb2, hb3, hb4, hpy, AV.bytes, wdl, bind_some_, map_some_, oneD_fold] | refine ifP_in (fun _ => ?_) fun _ => ?_
    have hry4 := hry.step hoff hst
    refine rF_use (lbytes_w o.b o.b hry4 (.inl rfl)) ?_
    rintro _ H6 ⟨rfl, rfl⟩
    rw [decide_eq_true (rfl : o.b = o.b)]
    rcases hyc with ⟨hb0, rfl, hH2⟩ | ⟨rfl, hH2, hbl⟩
    · repeat' first | simp (disch := first | omega | assumption | decide) only [go_sem, hm, hz, ht, hr_, hb2, hb4, hpy, AV.bytes, wdl, bind_some_, map_some_, oneD_fold] | refine ifP_in (fun _ => ?_) fun _ => ?_
      refine rL_loop (σ := Nat) (fun i e K => K = H6 ∧ (∃ t, e 8 = .b t ∧ (Dr.Live s r → t = true)) ∧ e 7 = .sl [] ∧ e 17 = .i 0) (fun i => i) 0 ?_ ?_
      · refine ⟨rfl, ⟨_, ?_, fun hl => decide_eq_true (hans hl)⟩, ?_, ?_⟩
        all_goals first | (simp (disch := first | assumption | omega) only [go_sem]; done) | (simp (disch := first | assumption | omega) only [go_sem]; rfl)
      · rintro i e K ⟨hK, ⟨t, g8, ht1⟩, g7, g17⟩
        have hK := hK.symm
        subst hK
        repeat' first | simp (disch := first | omega | assumption | decide) only [go_sem, hm, hz, ht, hr_, g7, g8, g17, wdl, bind_some_, map_some_, oneD_fold] | refine ifP_in (fun _ => ?_) fun _ => ?_
        exact ⟨t, rfl, ht1, _, _, hpair4, hst0.trans hst⟩
    · have hk0 : H1.length ∉ S ++ T := fun hm => by have := hlt _ hm; omega
      have hk0l : H1.length < H2.length := by rw [hH2]; simp
      obtain ⟨hrow0, hk0u⟩ := hst.at_ hk0l hk0
      have hrow : H6[H1.length]? = some (o.b.map byteA) := by rw [hrow0, hH2]; exact get_end_ _
      repeat' first | simp (disch := first | omega | assumption | decide) only [go_sem, hm, hz, ht, hr_, hb2, hb4, hpy, AV.bytes, wdl, bind_some_, map_some_, oneD_fold] | refine ifP_in (fun _ => ?_) fun _ => ?_
      refine rL_loop (σ := Nat) (fun i e K => (∃ t, e 8 = .b t ∧ (Dr.Live s r → t = true)) ∧ e 7 = .mr H1.length 0 o.b.length 1 false ∧ e 17 = .i i ∧ i ≤ o.b.length ∧ K.length = H6.length ∧ (∀ x, x ≠ H1.length → K[x]? = H6[x]?) ∧ ∃ xs : Bs, xs.length = o.b.length ∧ K[H1.length]? = some (xs.map byteA)) (fun i => o.b.length - i) 0 ?_ ?_
      · refine ⟨⟨_, ?_, fun hl => decide_eq_true (hans hl)⟩, ?_, ?_, by omega, rfl, fun _ _ => rfl, _, rfl, hrow⟩
        all_goals first | (simp (disch := first | assumption | omega) only [go_sem]; done) | (simp (disch := first | assumption | omega) only [go_sem]; rfl)
      · rintro i e K ⟨⟨t, g8, ht1⟩, g7, g17, i1, i2, i3, xs, x1, x2⟩
        by_cases hil : i < o.b.length
        · have hxi : xs[i]? = some xs[i] := List.getElem?_eq_getElem (by omega)
          have hwr := wrap_put ((xs[i]'(by omega)).toNat + 1) 0
          simp only [Int.pow_zero, Int.ediv_one, Nat.pow_zero, Nat.div_one] at hwr
          have hby : AV.v (.int .u8 (IntKind.u8.wrap (((xs[i]'(by omega)).toNat : Int) + 1))) = byteA (UInt8.ofNat ((xs[i]'(by omega)).toNat + 1)) := by rw [← hwr]; push_cast; rfl
          generalize xs[i]'(by omega) = v at *
          repeat' first | simp (disch := first | omega | assumption | decide) only [go_sem, hm, hz, ht, hr_, g7, g8, g17, x2, hxi, plainD_map, partD_map] | refine ifP_in (fun _ => ?_) fun _ => ?_
          rw [hby, store_row x2 (by omega), bindP_some]
          have hKl : H1.length < K.length := (List.getElem?_eq_some_iff.1 x2).1
          repeat' first | simp (disch := first | omega | assumption | decide) only [go_sem, hm, hz, ht, hr_, g7, g8, g17] | refine ifP_in (fun _ => ?_) fun _ => ?_
          exact ⟨i + 1, ⟨⟨t, rfl, ht1⟩, rfl, by omega, by simpa using i2, fun x hx => by rw [get_set_ne_ (fun e => hx e.symm)]; exact i3 x hx, xs.set i (UInt8.ofNat (v.toNat + 1)), by simpa using x1, get_set hKl⟩, by omega⟩
        · have : i = o.b.length := by omega
          subst this
          repeat' first | simp (disch := first | omega | assumption | decide) only [go_sem, hm, hz, ht, hr_, g7, g8, g17, wdl, bind_some_, map_some_, oneD_fold] | refine ifP_in (fun _ => ?_) fun _ => ?_
          refine ⟨t, rfl, ht1, _, _, hpair4.same fun x hx => i3 x (fun e => hk0u (by rw [← e]; exact hx)), ?_⟩
          refine (hst0.trans hst).off_ (by omega) fun x hx => i3 x ?_
          rintro rfl; omega
  by_cases c5 : o.kind = 5
  · have eD : doesD s o = (Dk.read s o.name).1 := by simp [doesD, c5]
    have eR : doesR r o = (Dr.read r o.name).1 := by simp [doesR, c5]
    rw [eD, eR]
    rw [c5] at hb2
    repeat' first | simp (disch := first | omega | assumption | decide) only [go_sem, hm, hz, ht, hr_, hb2, hpy, AV.bytes, wdl, bind_some_, map_some_, oneD_fold] | refine ifP_in (fun _ => ?_) fun _ => ?_
    refine rF_use (read_w hpair.hd (Kept.can hk1 hn) o.name (by omega)) ?_
    rintro _ H3 ⟨rfl, S3, hd3, hs3⟩
    obtain ⟨hpair3, hst3⟩ := hpair.stepL hs3 hd3
    have hb3 := (hst3.at_ hboxl hboxU).1.trans hb2
    repeat' first | simp (disch := first | omega | assumption | decide) only [go_sem, hm, hz, ht, hr_, hb2, hb3, hpy, AV.bytes, wdl, bind_some_, map_some_, oneD_fold] | refine ifP_in (fun _ => ?_) fun _ => ?_
    refine rF_use (rread_w hpair3.hr (Kept.can2 hk2 hn') o.name (by omega)) ?_
    rintro _ H4 ⟨rfl, T4, hr4, hs4⟩
    obtain ⟨hpair4, hst4⟩ := hpair3.stepR hs4 hr4
    have hst := hst3.trans hst4
    have hb4 := (hst.at_ hboxl hboxU).1.trans hb2
    repeat' first | simp (disch := first | omega | assumption | decide) only [go_sem, hm, hz, ht, hr_, hb2, hb3, hb4, hpy, AV.bytes, wdl, bind_some_, map_some_, oneD_fold] | refine ifP_in (fun _ => ?_) fun _ => ?_
    refine rF_use (lbytes_w (Dk.read s o.name).2.1 (Dr.read r o.name).2.1 (.inl rfl) (.inl rfl)) ?_
    rintro _ H5 ⟨rfl, rfl⟩
    by_cases hE : (Dk.read s o.name).2.1 = (Dr.read r o.name).2.1
    · rw [decide_eq_true hE]
      have hans : Dr.Live s r → (Dk.read s o.name).2.2 = (Dr.read r o.name).2.2 := fun hl => congrArg Prod.snd (hl.read _).2.symm
      repeat' first | simp (disch := first | omega | assumption | decide) only [go_sem, hm, hz, ht, hr_, hb2, hb3, hb4, hpy, AV.bytes, wdl, bind_some_, map_some_, oneD_fold] | refine ifP_in (fun _ => ?_) fun _ => ?_
      have hry4 := hry.step hoff hst
      refine rF_use (lbytes_w o.b o.b hry4 (.inl rfl)) ?_
      rintro _ H6 ⟨rfl, rfl⟩
      rw [decide_eq_true (rfl : o.b = o.b)]
      rcases hyc with ⟨hb0, rfl, hH2⟩ | ⟨rfl, hH2, hbl⟩
      · repeat' first | simp (disch := first | omega | assumption | decide) only [go_sem, hm, hz, ht, hr_, hb2, hb4, hpy, AV.bytes, wdl, bind_some_, map_some_, oneD_fold] | refine ifP_in (fun _ => ?_) fun _ => ?_
        refine rL_loop (σ := Nat) (fun i e K => K = H6 ∧ (∃ t, e 8 = .b t ∧ (Dr.Live s r → t = true)) ∧ e 7 = .sl [] ∧ e 17 = .i 0) (fun i => i) 0 ?_ ?_
        · refine ⟨rfl, ⟨_, ?_, fun hl => decide_eq_true (hans hl)⟩, ?_, ?_⟩
          all_goals first | (simp (disch := first | assumption | omega) only [go_sem]; done) | (simp (disch := first | assumption | omega) only [go_sem]; rfl)
        · rintro i e K ⟨hK, ⟨t, g8, ht1⟩, g7, g17⟩
          have hK := hK.symm
          subst hK
          repeat' first | simp (disch := first | omega | assumption | decide) only [go_sem, hm, hz, ht, hr_, g7, g8, g17, wdl, bind_some_, map_some_, oneD_fold] | refine ifP_in (fun _ => ?_) fun _ => ?_
          exact ⟨t, rfl, ht1, _, _, hpair4, hst0.trans hst⟩
      · have hk0 : H1.length ∉ S ++ T := fun hm => by have := hlt _ hm; omega
        have hk0l : H1.length < H2.length := by rw [hH2]; simp
        obtain ⟨hrow0, hk0u⟩ := hst.at_ hk0l hk0
        have hrow : H6[H1.length]? = some (o.b.map byteA) := by rw [hrow0, hH2]; exact get_end_ _
        repeat' first | simp (disch := first | omega | assumption | decide) only [go_sem, hm, hz, ht, hr_, hb2, hb4, hpy, AV.bytes, wdl, bind_some_, map_some_, oneD_fold] | refine ifP_in (fun _ => ?_) fun _ => ?_
        refine rL_loop (σ := Nat) (fun i e K => (∃ t, e 8 = .b t ∧ (Dr.Live s r → t = true)) ∧ e 7 = .mr H1.length 0 o.b.length 1 false ∧ e 17 = .i i ∧ i ≤ o.b.length ∧ K.length = H6.length ∧ (∀ x, x ≠ H1.length → K[x]? = H6[x]?) ∧ ∃ xs : Bs, xs.length = o.b.length ∧ K[H1.length]? = some (xs.map byteA)) (fun i => o.b.length - i) 0 ?_ ?_
        · refine ⟨⟨_, ?_, fun hl => decide_eq_true (hans hl)⟩, ?_, ?_, by omega, rfl, fun _ _ => rfl, _, rfl, hrow⟩
          all_goals first | (simp (disch := first | assumption | omega) only [go_sem]; done) | (simp (disch := first | assumption | omega) only [go_sem]; rfl)
        · rintro i e K ⟨⟨t, g8, ht1⟩, g7, g17, i1, i2, i3, xs, x1, x2⟩
          by_cases hil : i < o.b.length
          · have hxi : xs[i]? = some xs[i] := List.getElem?_eq_getElem (by omega)
            have hwr := wrap_put ((xs[i]'(by omega)).toNat + 1) 0
            simp only [Int.pow_zero, Int.ediv_one, Nat.pow_zero, Nat.div_one] at hwr
            have hby : AV.v (.int .u8 (IntKind.u8.wrap (((xs[i]'(by omega)).toNat : Int) + 1))) = byteA (UInt8.ofNat ((xs[i]'(by omega)).toNat + 1)) := by rw [← hwr]; push_cast; rfl
            generalize xs[i]'(by omega) = v at *
            repeat' first | simp (disch := first | omega | assumption | decide) only [go_sem, hm, hz, ht, hr_, g7, g8, g17, x2, hxi, plainD_map, partD_map] | refine ifP_in (fun _ => ?_) fun _ => ?_
            rw [hby, store_row x2 (by omega), bindP_some]
            have hKl : H1.length < K.length := (List.getElem?_eq_some_iff.1 x2).1
            repeat' first | simp (disch := first | omega | assumption | decide) only [go_sem, hm, hz, ht, hr_, g7, g8, g17] | refine ifP_in (fun _ => ?_) fun _ => ?_
            exact ⟨i + 1, ⟨⟨t, rfl, ht1⟩, rfl, by omega, by simpa using i2, fun x hx => by rw [get_set_ne_ (fun e => hx e.symm)]; exact i3 x hx, xs.set i (UInt8.ofNat (v.toNat + 1)), by simpa using x1, get_set hKl⟩, by omega⟩
          · have : i = o.b.length := by omega
            subst this
            repeat' first | simp (disch := first | omega | assumption | decide) only [go_sem, hm, hz, ht, hr_, g7, g8, g17, wdl, bind_some_, map_some_, oneD_fold] | refine ifP_in (fun _ => ?_) fun _ => ?_
            refine ⟨t, rfl, ht1, _, _, hpair4.same fun x hx => i3 x (fun e => hk0u (by rw [← e]; exact hx)), ?_⟩
            refine (hst0.trans hst).off_ (by omega) fun x hx => i3 x ?_
            rintro rfl; omega
    · have hans : Dr.Live s r → False := fun hl => hE (congrArg Prod.fst (hl.read _).2.symm)
      rw [decide_eq_false hE]
      repeat' first | simp (disch := first | omega | assumption | decide) only [go_sem, hm, hz, ht, hr_, hb2, hb3, hb4, hpy, AV.bytes, wdl, bind_some_, map_some_, oneD_fold] | refine ifP_in (fun _ => ?_) fun _ => ?_
      have hry4 := hry.step hoff hst
      refine rF_use (lbytes_w o.b o.b hry4 (.inl rfl)) ?_
      rintro _ H6 ⟨rfl, rfl⟩
      rw [decide_eq_true (rfl : o.b = o.b)]
      rcases hyc with ⟨hb0, rfl, hH2⟩ | ⟨rfl, hH2, hbl⟩
      · repeat' first | simp (disch := first | omega | assumption | decide) only [go_sem, hm, hz, ht, hr_, hb2, hb4, hpy, AV.bytes, wdl, bind_some_, map_some_, oneD_fold] | refine ifP_in (fun _ => ?_) fun _ => ?_
        refine rL_loop (σ := Nat) (fun i e K => K = H6 ∧ (∃ t, e 8 = .b t ∧ (Dr.Live s r → t = true)) ∧ e 7 = .sl [] ∧ e 17 = .i 0) (fun i => i) 0 ?_ ?_
        · refine ⟨rfl, ⟨false, ?_, fun hl => (hans hl).elim⟩, ?_, ?_⟩
          all_goals first | (simp (disch := first | assumption | omega) only [go_sem]; done) | (simp (disch := first | assumption | omega) only [go_sem]; rfl)
        · rintro i e K ⟨hK, ⟨t, g8, ht1⟩, g7, g17⟩
          have hK := hK.symm
          subst hK
          repeat' first | simp (disch := first | omega | assumption | decide) only [go_sem, hm, hz, ht, hr_, g7, g8, g17, wdl, bind_some_, map_some_, oneD_fold] | refine ifP_in (fun _ => ?_) fun _ => ?_
          exact ⟨t, rfl, ht1, _, _, hpair4, hst0.trans hst⟩
      · have hk0 : H1.length ∉ S ++ T := fun hm => by have := hlt _ hm; omega
        have hk0l : H1.length < H2.length := by rw [hH2]; simp
        obtain ⟨hrow0, hk0u⟩ := hst.at_ hk0l hk0
        have hrow : H6[H1.length]? = some (o.b.map byteA) := by rw [hrow0, hH2]; exact get_end_ _
        repeat' first | simp (disch := first | omega | assumption | decide) only [go_sem, hm, hz, ht, hr_, hb2, hb4, hpy, AV.bytes, wdl, bind_some_, map_some_, oneD_fold] | refine ifP_in (fun _ => ?_) fun _ => ?_
        refine rL_loop (σ := Nat) (fun i e K => (∃ t, e 8 = .b t ∧ (Dr.Live s r → t = true)) ∧ e 7 = .mr H1.length 0 o.b.length 1 false ∧ e 17 = .i i ∧ i ≤ o.b.length ∧ K.length = H6.length ∧ (∀ x, x ≠ H1.length → K[x]? = H6[x]?) ∧ ∃ xs : Bs, xs.length = o.b.length ∧ K[H1.length]? = some (xs.map byteA)) (fun i => o.b.length - i) 0 ?_ ?_
        · refine ⟨⟨false, ?_, fun hl => (hans hl).elim⟩, ?_, ?_, by omega, rfl, fun _ _ => rfl, _, rfl, hrow⟩
          all_goals first | (simp (disch := first | assumption | omega) only [go_sem]; done) | (simp (disch := first | assumption | omega) only [go_sem]; rfl)
        · rintro i e K ⟨⟨t, g8, ht1⟩, g7, g17, i1, i2, i3, xs, x1, x2⟩
          by_cases hil : i < o.b.length
          · have hxi : xs[i]? = some xs[i] := List.getElem?_eq_getElem (by omega)
            have hwr := wrap_put ((xs[i]'(by omega)).toNat + 1) 0
            simp only [Int.pow_zero, Int.ediv_one, Nat.pow_zero, Nat.div_one] at hwr
            have hby : AV.v (.int .u8 (IntKind.u8.wrap (((xs[i]'(by omega)).toNat : Int) + 1))) = byteA (UInt8.ofNat ((xs[i]'(by omega)).toNat + 1)) := by rw [← hwr]; push_cast; rfl
            generalize xs[i]'(by omega) = v at *
            repeat' first | simp (disch := first | omega | assumption | decide) only [go_sem, hm, hz, ht, hr_, g7, g8, g17, x2, hxi, plainD_map, partD_map] | refine ifP_in (fun _ => ?_) fun _ => ?_
            rw [hby, store_row x2 (by omega), bindP_some]
            have hKl : H1.length < K.length := (List.getElem?_eq_some_iff.1 x2).1
            repeat' first | simp (disch := first | omega | assumption | decide) only [go_sem, hm, hz, ht, hr_, g7, g8, g17] | refine ifP_in (fun _ => ?_) fun _ => ?_
            exact ⟨i + 1, ⟨⟨t, rfl, ht1⟩, rfl, by omega, by simpa using i2, fun x hx => by rw [get_set_ne_ (fun e => hx e.symm)]; exact i3 x hx, xs.set i (UInt8.ofNat (v.toNat + 1)), by simpa using x1, get_set hKl⟩, by omega⟩
          · have : i = o.b.length := by omega
            subst this
            repeat' first | simp (disch := first | omega | assumption | decide) only [go_sem, hm, hz, ht, hr_, g7, g8, g17, wdl, bind_some_, map_some_, oneD_fold] | refine ifP_in (fun _ => ?_) fun _ => ?_
            refine ⟨t, rfl, ht1, _, _, hpair4.same fun x hx => i3 x (fun e => hk0u (by rw [← e]; exact hx)), ?_⟩
            refine (hst0.trans hst).off_ (by omega) fun x hx => i3 x ?_
            rintro rfl; omega
  by_cases c6 : o.kind = 6
  · have eD : doesD s o = (dlist s).1 := by rw [dlist_fst]; simp [doesD, c6]
    have eR : doesR r o = (Dr.list r).1 := by simp [doesR, c6]
    rw [eD, eR]
    rw [c6] at hb2
    repeat' first | simp (disch := first | omega | assumption | decide) only [go_sem, hm, hz, ht, hr_, hb2, hpy, AV.bytes, wdl, bind_some_, map_some_, oneD_fold] | refine ifP_in (fun _ => ?_) fun _ => ?_
    refine rF_use (list_w hpair.hd (Kept.can hk1 hn) (Kept.evLen hk1 hn)) ?_
    rintro _ H3 ⟨rfl, S3, hd3, hs3⟩
    obtain ⟨hpair3, hst3⟩ := hpair.stepL hs3 hd3
    have hb3 := (hst3.at_ hboxl hboxU).1.trans hb2
    repeat' first | simp (disch := first | omega | assumption | decide) only [go_sem, hm, hz, ht, hr_, hb2, hb3, hpy, AV.bytes, wdl, bind_some_, map_some_, oneD_fold] | refine ifP_in (fun _ => ?_) fun _ => ?_
    refine rF_use (rlist_w hpair3.hr (Kept.can2 hk2 hn')) ?_
    rintro _ H4 ⟨rfl, T4, hr4, hs4⟩
    obtain ⟨hpair4, hst4⟩ := hpair3.stepR hs4 hr4
    have hst := hst3.trans hst4
    have hb4 := (hst.at_ hboxl hboxU).1.trans hb2
    repeat' first | simp (disch := first | omega | assumption | decide) only [go_sem, hm, hz, ht, hr_, hb2, hb3, hb4, hpy, AV.bytes, wdl, bind_some_, map_some_, oneD_fold] | refine ifP_in (fun _ => ?_) fun _ => ?_
    refine rF_use (texts_w (dlist s).2.1 (Dr.list r).2.1 (dlist_len hk1 hn) (rlist_len hk2 hn')) ?_
    rintro _ H5 ⟨rfl, rfl⟩
    by_cases hE : (dlist s).2.1 = (Dr.list r).2.1
    · rw [decide_eq_true hE]
      have hans : Dr.Live s r → (dlist s).2.2 = (Dr.list r).2.2 := fun hl => congrArg Prod.snd (dlist_eq hl)
      repeat' first | simp (disch := first | omega | assumption | decide) only [go_sem, hm, hz, ht, hr_, hb2, hb3, hb4, hpy, AV.bytes, wdl, bind_some_, map_some_, oneD_fold] | refine ifP_in (fun _ => ?_) fun _ => ?_
      have hry4 := hry.step hoff hst
      refine rF_use (lbytes_w o.b o.b hry4 (.inl rfl)) ?_
      rintro _ H6 ⟨rfl, rfl⟩
      rw [decide_eq_true (rfl : o.b = o.b)]
      rcases hyc with ⟨hb0, rfl, hH2⟩ | ⟨rfl, hH2, hbl⟩
      · repeat' first | simp (disch := first | omega | assumption | decide) only [go_sem, hm, hz, ht, hr_, hb2, hb4, hpy, AV.bytes, wdl, bind_some_, map_some_, oneD_fold] | refine ifP_in (fun _ => ?_) fun _ => ?_
        refine rL_loop (σ := Nat) (fun i e K => K = H6 ∧ (∃ t, e 8 = .b t ∧ (Dr.Live s r → t = true)) ∧ e 7 = .sl [] ∧ e 17 = .i 0) (fun i => i) 0 ?_ ?_
        · refine ⟨rfl, ⟨_, ?_, fun hl => decide_eq_true (hans hl)⟩, ?_, ?_⟩
          all_goals first | (simp (disch := first | assumption | omega) only [go_sem]; done) | (simp (disch := first | assumption | omega) only [go_sem]; rfl)
        · rintro i e K ⟨hK, ⟨t, g8, ht1⟩, g7, g17⟩
          have hK := hK.symm
          subst hK
          repeat' first | simp (disch := first | omega | assumption | decide) only [go_sem, hm, hz, ht, hr_, g7, g8, g17, wdl, bind_some_, map_some_, oneD_fold] | refine ifP_in (fun _ => ?_) fun _ => ?_
          exact ⟨t, rfl, ht1, _, _, hpair4, hst0.trans hst⟩
      · have hk0 : H1.length ∉ S ++ T := fun hm => by have := hlt _ hm; omega
        have hk0l : H1.length < H2.length := by rw [hH2]; simp
        obtain ⟨hrow0, hk0u⟩ := hst.at_ hk0l hk0
        have hrow : H6[H1.length]? = some (o.b.map byteA) := by rw [hrow0, hH2]; exact get_end_ _
        repeat' first | simp (disch := first | omega | assumption | decide) only [go_sem, hm, hz, ht, hr_, hb2, hb4, hpy, AV.bytes, wdl, bind_some_, map_some_, oneD_fold] | refine ifP_in (fun _ => ?_) fun _ => ?_
        refine rL_loop (σ := Nat) (fun i e K => (∃ t, e 8 = .b t ∧ (Dr.Live s r → t = true)) ∧ e 7 = .mr H1.length 0 o.b.length 1 false ∧ e 17 = .i i ∧ i ≤ o.b.length ∧ K.length = H6.length ∧ (∀ x, x ≠ H1.length → K[x]? = H6[x]?) ∧ ∃ xs : Bs, xs.length = o.b.length ∧ K[H1.length]? = some (xs.map byteA)) (fun i => o.b.length - i) 0 ?_ ?_
        · refine ⟨⟨_, ?_, fun hl => decide_eq_true (hans hl)⟩, ?_, ?_, by omega, rfl, fun _ _ => rfl, _, rfl, hrow⟩
          all_goals first | (simp (disch := first | assumption | omega) only [go_sem]; done) | (simp (disch := first | assumption | omega) only [go_sem]; rfl)
        · rintro i e K ⟨⟨t, g8, ht1⟩, g7, g17, i1, i2, i3, xs, x1, x2⟩
          by_cases hil : i < o.b.length
          · have hxi : xs[i]? = some xs[i] := List.getElem?_eq_getElem (by omega)
            have hwr := wrap_put ((xs[i]'(by omega)).toNat + 1) 0
            simp only [Int.pow_zero, Int.ediv_one, Nat.pow_zero, Nat.div_one] at hwr
            have hby : AV.v (.int .u8 (IntKind.u8.wrap (((xs[i]'(by omega)).toNat : Int) + 1))) = byteA (UInt8.ofNat ((xs[i]'(by omega)).toNat + 1)) := by rw [← hwr]; push_cast; rfl
            generalize xs[i]'(by omega) = v at *
            repeat' first | simp (disch := first | omega | assumption | decide) only [go_sem, hm, hz, ht, hr_, g7, g8, g17, x2, hxi, plainD_map, partD_map] | refine ifP_in (fun _ => ?_) fun _ => ?_
            rw [hby, store_row x2 (by omega), bindP_some]
            have hKl : H1.length < K.length := (List.getElem?_eq_some_iff.1 x2).1
            repeat' first | simp (disch := first | omega | assumption | decide) only [go_sem, hm, hz, ht, hr_, g7, g8, g17] | refine ifP_in (fun _ => ?_) fun _ => ?_
            exact ⟨i + 1, ⟨⟨t, rfl, ht1⟩, rfl, by omega, by simpa using i2, fun x hx => by rw [get_set_ne_ (fun e => hx e.symm)]; exact i3 x hx, xs.set i (UInt8.ofNat (v.toNat + 1)), by simpa using x1, get_set hKl⟩, by omega⟩
          · have : i = o.b.length := by omega
            subst this
            repeat' first | simp (disch := first | omega | assumption | decide) only [go_sem, hm, hz, ht, hr_, g7, g8, g17, wdl, bind_some_, map_some_, oneD_fold] | refine ifP_in (fun _ => ?_) fun _ => ?_
            refine ⟨t, rfl, ht1, _, _, hpair4.same fun x hx => i3 x (fun e => hk0u (by rw [← e]; exact hx)), ?_⟩
            refine (hst0.trans hst).off_ (by omega) fun x hx => i3 x ?_
            rintro rfl; omega
    · have hans : Dr.Live s r → False := fun hl => hE (congrArg Prod.fst (dlist_eq hl))
      rw [decide_eq_false hE]
      repeat' first | simp (disch := first | omega | assumption | decide) only [go_sem, hm, hz, ht, hr_, hb2, hb3, hb4, hpy, AV.bytes, wdl, bind_some_, map_some_, oneD_fold] | refine ifP_in (fun _ => ?_) fun _ => ?_
      have hry4 := hry.step hoff hst
      refine rF_use (lbytes_w o.b o.b hry4 (.inl rfl)) ?_
      rintro _ H6 ⟨rfl, rfl⟩
      rw [decide_eq_true (rfl : o.b = o.b)]
      rcases hyc with ⟨hb0, rfl, hH2⟩ | ⟨rfl, hH2, hbl⟩
      · repeat' first | simp (disch := first | omega | assumption | decide) only [go_sem, hm, hz, ht, hr_, hb2, hb4, hpy, AV.bytes, wdl, bind_some_, map_some_, oneD_fold] | refine ifP_in (fun _ => ?_) fun _ => ?_
        refine rL_loop (σ := Nat) (fun i e K => K = H6 ∧ (∃ t, e 8 = .b t ∧ (Dr.Live s r → t = true)) ∧ e 7 = .sl [] ∧ e 17 = .i 0) (fun i => i) 0 ?_ ?_
        · refine ⟨rfl, ⟨false, ?_, fun hl => (hans hl).elim⟩, ?_, ?_⟩
          all_goals first | (simp (disch := first | assumption | omega) only [go_sem]; done) | (simp (disch := first | assumption | omega) only [go_sem]; rfl)
        · rintro i e K ⟨hK, ⟨t, g8, ht1⟩, g7, g17⟩
          have hK := hK.symm
          subst hK
          repeat' first | simp (disch := first | omega | assumption | decide) only [go_sem, hm, hz, ht, hr_, g7, g8, g17, wdl, bind_some_, map_some_, oneD_fold] | refine ifP_in (fun _ => ?_) fun _ => ?_
          exact ⟨t, rfl, ht1, _, _, hpair4, hst0.trans hst⟩
      · have hk0 : H1.length ∉ S ++ T := fun hm => by have := hlt _ hm; omega
        have hk0l : H1.length < H2.length := by rw [hH2]; simp
        obtain ⟨hrow0, hk0u⟩ := hst.at_ hk0l hk0
        have hrow : H6[H1.length]? = some (o.b.map byteA) := by rw [hrow0, hH2]; exact get_end_ _
        repeat' first | simp (disch := first | omega | assumption | decide) only [go_sem, hm, hz, ht, hr_, hb2, hb4, hpy, AV.bytes, wdl, bind_some_, map_some_, oneD_fold] | refine ifP_in (fun _ => ?_) fun _ => ?_
        refine rL_loop (σ := Nat) (fun i e K => (∃ t, e 8 = .b t ∧ (Dr.Live s r → t = true)) ∧ e 7 = .mr H1.length 0 o.b.length 1 false ∧ e 17 = .i i ∧ i ≤ o.b.length ∧ K.length = H6.length ∧ (∀ x, x ≠ H1.length → K[x]? = H6[x]?) ∧ ∃ xs : Bs, xs.length = o.b.length ∧ K[H1.length]? = some (xs.map byteA)) (fun i => o.b.length - i) 0 ?_ ?_
        · refine ⟨⟨false, ?_, fun hl => (hans hl).elim⟩, ?_, ?_, by omega, rfl, fun _ _ => rfl, _, rfl, hrow⟩
          all_goals first | (simp (disch := first | assumption | omega) only [go_sem]; done) | (simp (disch := first | assumption | omega) only [go_sem]; rfl)
        · rintro i e K ⟨⟨t, g8, ht1⟩, g7, g17, i1, i2, i3, xs, x1, x2⟩
          by_cases hil : i < o.b.length
          · have hxi : xs[i]? = some xs[i] := List.getElem?_eq_getElem (by omega)
            have hwr := wrap_put ((xs[i]'(by omega)).toNat + 1) 0
            simp only [Int.pow_zero, Int.ediv_one, Nat.pow_zero, Nat.div_one] at hwr
            have hby : AV.v (.int .u8 (IntKind.u8.wrap (((xs[i]'(by omega)).toNat : Int) + 1))) = byteA (UInt8.ofNat ((xs[i]'(by omega)).toNat + 1)) := by rw [← hwr]; push_cast; rfl
            generalize xs[i]'(by omega) = v at *
            repeat' first | simp (disch := first | omega | assumption | decide) only [go_sem, hm, hz, ht, hr_, g7, g8, g17, x2, hxi, plainD_map, partD_map] | refine ifP_in (fun _ => ?_) fun _ => ?_
            rw [hby, store_row x2 (by omega), bindP_some]
            have hKl : H1.length < K.length := (List.getElem?_eq_some_iff.1 x2).1
            repeat' first | simp (disch := first | omega | assumption | decide) only [go_sem, hm, hz, ht, hr_, g7, g8, g17] | refine ifP_in (fun _ => ?_) fun _ => ?_
            exact ⟨i + 1, ⟨⟨t, rfl, ht1⟩, rfl, by omega, by simpa using i2, fun x hx => by rw [get_set_ne_ (fun e => hx e.symm)]; exact i3 x hx, xs.set i (UInt8.ofNat (v.toNat + 1)), by simpa using x1, get_set hKl⟩, by omega⟩
          · have : i = o.b.length := by omega
            subst this
            repeat' first | simp (disch := first | omega | assumption | decide) only [go_sem, hm, hz, ht, hr_, g7, g8, g17, wdl, bind_some_, map_some_, oneD_fold] | refine ifP_in (fun _ => ?_) fun _ => ?_
            refine ⟨t, rfl, ht1, _, _, hpair4.same fun x hx => i3 x (fun e => hk0u (by rw [← e]; exact hx)), ?_⟩
            refine (hst0.trans hst).off_ (by omega) fun x hx => i3 x ?_
            rintro rfl; omega
  by_cases c7 : o.kind = 7
  · have eD : doesD s o = Dk.crash s o.keep o.torn := by simp [doesD, c7]
    have eR : doesR r o = Dr.crash r o.keep o.torn := by simp [doesR, c7]
    rw [eD, eR]
    rw [c7] at hb2
    repeat' first | simp (disch := first | omega | assumption | decide) only [go_sem, hm, hz, ht, hr_, hb2, hpy, AV.bytes, wdl, bind_some_, map_some_, oneD_fold] | refine ifP_in (fun _ => ?_) fun _ => ?_
    refine rF_use (crash_w hpair.hd hk1.live.two.ok (by have := hk1.calls; omega) o.keep o.torn) ?_
    rintro _ H3 ⟨rfl, S3, hd3, hs3⟩
    obtain ⟨hpair3, hst3⟩ := hpair.stepL hs3 hd3
    have hb3 := (hst3.at_ hboxl hboxU).1.trans hb2
    repeat' first | simp (disch := first | omega | assumption | decide) only [go_sem, hm, hz, ht, hr_, hb2, hb3, hpy, AV.bytes, wdl, bind_some_, map_some_, oneD_fold] | refine ifP_in (fun _ => ?_) fun _ => ?_
    refine rF_use (rcrash_w hpair3.hr (rb_of hk2.live.two (by have := hk2.calls; omega) (by have := hk2.calls; omega)) o.keep o.torn) ?_
    rintro _ H4 ⟨rfl, T4, hr4, hs4⟩
    obtain ⟨hpair4, hst4⟩ := hpair3.stepR hs4 hr4
    have hst := hst3.trans hst4
    have hb4 := (hst.at_ hboxl hboxU).1.trans hb2
    have hans : Dr.Live s r → True := fun _ => trivial
    repeat' first | simp (disch := first | omega | assumption | decide) only [go_sem, hm, hz, ht, hr_, hb2, hb3, hb4, hpy, AV.bytes, wdl, bind_some_, map_some_, oneD_fold] | refine ifP_in (fun _ => ?_) fun _ => ?_
    have hry4 := hry.step hoff hst
    refine rF_use (lbytes_w o.b o.b hry4 (.inl rfl)) ?_
    rintro _ H6 ⟨rfl, rfl⟩
    rw [decide_eq_true (rfl : o.b = o.b)]
    rcases hyc with ⟨hb0, rfl, hH2⟩ | ⟨rfl, hH2, hbl⟩
    · repeat' first | simp (disch := first | omega | assumption | decide) only [go_sem, hm, hz, ht, hr_, hb2, hb4, hpy, AV.bytes, wdl, bind_some_, map_some_, oneD_fold] | refine ifP_in (fun _ => ?_) fun _ => ?_
      refine rL_loop (σ := Nat) (fun i e K => K = H6 ∧ (∃ t, e 8 = .b t ∧ (Dr.Live s r → t = true)) ∧ e 7 = .sl [] ∧ e 17 = .i 0) (fun i => i) 0 ?_ ?_
      · refine ⟨rfl, ⟨true, ?_, fun _ => rfl⟩, ?_, ?_⟩
        all_goals first | (simp (disch := first | assumption | omega) only [go_sem]; done) | (simp (disch := first | assumption | omega) only [go_sem]; rfl)
      · rintro i e K ⟨hK, ⟨t, g8, ht1⟩, g7, g17⟩
        have hK := hK.symm
        subst hK
        repeat' first | simp (disch := first | omega | assumption | decide) only [go_sem, hm, hz, ht, hr_, g7, g8, g17, wdl, bind_some_, map_some_, oneD_fold] | refine ifP_in (fun _ => ?_) fun _ => ?_
        exact ⟨t, rfl, ht1, _, _, hpair4, hst0.trans hst⟩
    · have hk0 : H1.length ∉ S ++ T := fun hm => by have := hlt _ hm; omega
      have hk0l : H1.length < H2.length := by rw [hH2]; simp
      obtain ⟨hrow0, hk0u⟩ := hst.at_ hk0l hk0
      have hrow : H6[H1.length]? = some (o.b.map byteA) := by rw [hrow0, hH2]; exact get_end_ _
      repeat' first | simp (disch := first | omega | assumption | decide) only [go_sem, hm, hz, ht, hr_, hb2, hb4, hpy, AV.bytes, wdl, bind_some_, map_some_, oneD_fold] | refine ifP_in (fun _ => ?_) fun _ => ?_
      refine rL_loop (σ := Nat) (fun i e K => (∃ t, e 8 = .b t ∧ (Dr.Live s r → t = true)) ∧ e 7 = .mr H1.length 0 o.b.length 1 false ∧ e 17 = .i i ∧ i ≤ o.b.length ∧ K.length = H6.length ∧ (∀ x, x ≠ H1.length → K[x]? = H6[x]?) ∧ ∃ xs : Bs, xs.length = o.b.length ∧ K[H1.length]? = some (xs.map byteA)) (fun i => o.b.length - i) 0 ?_ ?_
      · refine ⟨⟨true, ?_, fun _ => rfl⟩, ?_, ?_, by omega, rfl, fun _ _ => rfl, _, rfl, hrow⟩
        all_goals first | (simp (disch := first | assumption | omega) only [go_sem]; done) | (simp (disch := first | assumption | omega) only [go_sem]; rfl)
      · rintro i e K ⟨⟨t, g8, ht1⟩, g7, g17, i1, i2, i3, xs, x1, x2⟩
        by_cases hil : i < o.b.length
        · have hxi : xs[i]? = some xs[i] := List.getElem?_eq_getElem (by omega)
          have hwr := wrap_put ((xs[i]'(by omega)).toNat + 1) 0
          simp only [Int.pow_zero, Int.ediv_one, Nat.pow_zero, Nat.div_one] at hwr
          have hby : AV.v (.int .u8 (IntKind.u8.wrap (((xs[i]'(by omega)).toNat : Int) + 1))) = byteA (UInt8.ofNat ((xs[i]'(by omega)).toNat + 1)) := by rw [← hwr]; push_cast; rfl
          generalize xs[i]'(by omega) = v at *
          repeat' first | simp (disch := first | omega | assumption | decide) only [go_sem, hm, hz, ht, hr_, g7, g8, g17, x2, hxi, plainD_map, partD_map] | refine ifP_in (fun _ => ?_) fun _ => ?_
          rw [hby, store_row x2 (by omega), bindP_some]
          have hKl : H1.length < K.length := (List.getElem?_eq_some_iff.1 x2).1
          repeat' first | simp (disch := first | omega | assumption | decide) only [go_sem, hm, hz, ht, hr_, g7, g8, g17] | refine ifP_in (fun _ => ?_) fun _ => ?_
          exact ⟨i + 1, ⟨⟨t, rfl, ht1⟩, rfl, by omega, by simpa using i2, fun x hx => by rw [get_set_ne_ (fun e => hx e.symm)]; exact i3 x hx, xs.set i (UInt8.ofNat (v.toNat + 1)), by simpa using x1, get_set hKl⟩, by omega⟩
        · have : i = o.b.length := by omega
          subst this
          repeat' first | simp (disch := first | omega | assumption | decide) only [go_sem, hm, hz, ht, hr_, g7, g8, g17, wdl, bind_some_, map_some_, oneD_fold] | refine ifP_in (fun _ => ?_) fun _ => ?_
          refine ⟨t, rfl, ht1, _, _, hpair4.same fun x hx => i3 x (fun e => hk0u (by rw [← e]; exact hx)), ?_⟩
          refine (hst0.trans hst).off_ (by omega) fun x hx => i3 x ?_
          rintro rfl; omega
  by_cases c8 : o.kind = 8
  · have eD : doesD s o = { s with down := false } := by simp [doesD, c8]
    have eR : doesR r o = { r with down := false } := by simp [doesR, c8]
    rw [eD, eR]
    rw [c8] at hb2
    repeat' first | simp (disch := first | omega | assumption | decide) only [go_sem, hm, hz, ht, hr_, hb2, hpy, AV.bytes, wdl, bind_some_, map_some_, oneD_fold] | refine ifP_in (fun _ => ?_) fun _ => ?_
    refine rF_use (reboot_w hpair.hd) ?_
    rintro _ H3 ⟨rfl, S3, hd3, hs3⟩
    obtain ⟨hpair3, hst3⟩ := hpair.stepL hs3 hd3
    have hb3 := (hst3.at_ hboxl hboxU).1.trans hb2
    repeat' first | simp (disch := first | omega | assumption | decide) only [go_sem, hm, hz, ht, hr_, hb2, hb3, hpy, AV.bytes, wdl, bind_some_, map_some_, oneD_fold] | refine ifP_in (fun _ => ?_) fun _ => ?_
    refine rF_use (rreboot_w hpair3.hr) ?_
    rintro _ H4 ⟨rfl, T4, hr4, hs4⟩
    obtain ⟨hpair4, hst4⟩ := hpair3.stepR hs4 hr4
    have hst := hst3.trans hst4
    have hb4 := (hst.at_ hboxl hboxU).1.trans hb2
    have hans : Dr.Live s r → True := fun _ => trivial
    repeat' first | simp (disch := first | omega | assumption | decide) only [go_sem, hm, hz, ht, hr_, hb2, hb3, hb4, hpy, AV.bytes, wdl, bind_some_, map_some_, oneD_fold] | refine ifP_in (fun _ => ?_) fun _ => ?_
    have hry4 := hry.step hoff hst
    refine rF_use (lbytes_w o.b o.b hry4 (.inl rfl)) ?_
    rintro _ H6 ⟨rfl, rfl⟩
    rw [decide_eq_true (rfl : o.b = o.b)]
    rcases hyc with ⟨hb0, rfl, hH2⟩ | ⟨rfl, hH2, hbl⟩
    · repeat' first | simp (disch := first | omega | assumption | decide) only [go_sem, hm, hz, ht, hr_, hb2, hb4, hpy, AV.bytes, wdl, bind_some_, map_some_, oneD_fold] | refine ifP_in (fun _ => ?_) fun _ => ?_
      refine rL_loop (σ := Nat) (fun i e K => K = H6 ∧ (∃ t, e 8 = .b t ∧ (Dr.Live s r → t = true)) ∧ e 7 = .sl [] ∧ e 17 = .i 0) (fun i => i) 0 ?_ ?_
      · refine ⟨rfl, ⟨true, ?_, fun _ => rfl⟩, ?_, ?_⟩
        all_goals first | (simp (disch := first | assumption | omega) only [go_sem]; done) | (simp (disch := first | assumption | omega) only [go_sem]; rfl)
      · rintro i e K ⟨hK, ⟨t, g8, ht1⟩, g7, g17⟩
        have hK := hK.symm
        subst hK
        repeat' first | simp (disch := first | omega | assumption | decide) only [go_sem, hm, hz, ht, hr_, g7, g8, g17, wdl, bind_some_, map_some_, oneD_fold] | refine ifP_in (fun _ => ?_) fun _ => ?_
        exact ⟨t, rfl, ht1, _, _, hpair4, hst0.trans hst⟩
    · have hk0 : H1.length ∉ S ++ T := fun hm => by have := hlt _ hm; omega
      have hk0l : H1.length < H2.length := by rw [hH2]; simp
      obtain ⟨hrow0, hk0u⟩ := hst.at_ hk0l hk0
      have hrow : H6[H1.length]? = some (o.b.map byteA) := by rw [hrow0, hH2]; exact get_end_ _
      repeat' first | simp (disch := first | omega | assumption | decide) only [go_sem, hm, hz, ht, hr_, hb2, hb4, hpy, AV.bytes, wdl, bind_some_, map_some_, oneD_fold] | refine ifP_in (fun _ => ?_) fun _ => ?_
      refine rL_loop (σ := Nat) (fun i e K => (∃ t, e 8 = .b t ∧ (Dr.Live s r → t = true)) ∧ e 7 = .mr H1.length 0 o.b.length 1 false ∧ e 17 = .i i ∧ i ≤ o.b.length ∧ K.length = H6.length ∧ (∀ x, x ≠ H1.length → K[x]? = H6[x]?) ∧ ∃ xs : Bs, xs.length = o.b.length ∧ K[H1.length]? = some (xs.map byteA)) (fun i => o.b.length - i) 0 ?_ ?_
      · refine ⟨⟨true, ?_, fun _ => rfl⟩, ?_, ?_, by omega, rfl, fun _ _ => rfl, _, rfl, hrow⟩
        all_goals first | (simp (disch := first | assumption | omega) only [go_sem]; done) | (simp (disch := first | assumption | omega) only [go_sem]; rfl)
      · rintro i e K ⟨⟨t, g8, ht1⟩, g7, g17, i1, i2, i3, xs, x1, x2⟩
        by_cases hil : i < o.b.length
        · have hxi : xs[i]? = some xs[i] := List.getElem?_eq_getElem (by omega)
          have hwr := wrap_put ((xs[i]'(by omega)).toNat + 1) 0
          simp only [Int.pow_zero, Int.ediv_one, Nat.pow_zero, Nat.div_one] at hwr
          have hby : AV.v (.int .u8 (IntKind.u8.wrap (((xs[i]'(by omega)).toNat : Int) + 1))) = byteA (UInt8.ofNat ((xs[i]'(by omega)).toNat + 1)) := by rw [← hwr]; push_cast; rfl
          generalize xs[i]'(by omega) = v at *
          repeat' first | simp (disch := first | omega | assumption | decide) only [go_sem, hm, hz, ht, hr_, g7, g8, g17, x2, hxi, plainD_map, partD_map] | refine ifP_in (fun _ => ?_) fun _ => ?_
          rw [hby, store_row x2 (by omega), bindP_some]
          have hKl : H1.length < K.length := (List.getElem?_eq_some_iff.1 x2).1
          repeat' first | simp (disch := first | omega | assumption | decide) only [go_sem, hm, hz, ht, hr_, g7, g8, g17] | refine ifP_in (fun _ => ?_) fun _ => ?_
          exact ⟨i + 1, ⟨⟨t, rfl, ht1⟩, rfl, by omega, by simpa using i2, fun x hx => by rw [get_set_ne_ (fun e => hx e.symm)]; exact i3 x hx, xs.set i (UInt8.ofNat (v.toNat + 1)), by simpa using x1, get_set hKl⟩, by omega⟩
        · have : i = o.b.length := by omega
          subst this
          repeat' first | simp (disch := first | omega | assumption | decide) only [go_sem, hm, hz, ht, hr_, g7, g8, g17, wdl, bind_some_, map_some_, oneD_fold] | refine ifP_in (fun _ => ?_) fun _ => ?_
          refine ⟨t, rfl, ht1, _, _, hpair4.same fun x hx => i3 x (fun e => hk0u (by rw [← e]; exact hx)), ?_⟩
          refine (hst0.trans hst).off_ (by omega) fun x hx => i3 x ?_
          rintro rfl; omega
  by_cases c9 : o.kind = 9
  · have eD : doesD s o = { s with plan := o.plan } := by simp [doesD, c9]
    have eR : doesR r o = Dr.plan r o.plan := by simp [doesR, c9]
    rw [eD, eR]
    rw [c9] at hb2
    repeat' first | simp (disch := first | omega | assumption | decide) only [go_sem, hm, hz, ht, hr_, hb2, hpy, AV.bytes, wdl, bind_some_, map_some_, oneD_fold] | refine ifP_in (fun _ => ?_) fun _ => ?_
    refine rF_use (plan_w hpair.hd o.plan (by omega) (x := .sl (o.plan.map evA)) (.inr rfl)) ?_
    rintro _ H3 ⟨rfl, S3, hd3, hs3⟩
    obtain ⟨hpair3, hst3⟩ := hpair.stepL hs3 hd3
    have hb3 := (hst3.at_ hboxl hboxU).1.trans hb2
    repeat' first | simp (disch := first | omega | assumption | decide) only [go_sem, hm, hz, ht, hr_, hb2, hb3, hpy, AV.bytes, wdl, bind_some_, map_some_, oneD_fold] | refine ifP_in (fun _ => ?_) fun _ => ?_
    refine rF_use (plainE_w o.plan (by omega)) ?_
    rintro _ H33 ⟨rfl, rfl⟩
    repeat' first | simp (disch := first | omega | assumption | decide) only [go_sem, hm, hz, ht, hr_, hb2, hb3, hpy, AV.bytes, wdl, bind_some_, map_some_, oneD_fold] | refine ifP_in (fun _ => ?_) fun _ => ?_
    refine rF_use (rplan_w hpair3.hr o.plan (by omega)) ?_
    rintro _ H4 ⟨rfl, T4, hr4, hs4⟩
    obtain ⟨hpair4, hst4⟩ := hpair3.stepR hs4 hr4
    have hst := hst3.trans hst4
    have hb4 := (hst.at_ hboxl hboxU).1.trans hb2
    have hans : Dr.Live s r → True := fun _ => trivial
    repeat' first | simp (disch := first | omega | assumption | decide) only [go_sem, hm, hz, ht, hr_, hb2, hb3, hb4, hpy, AV.bytes, wdl, bind_some_, map_some_, oneD_fold] | refine ifP_in (fun _ => ?_) fun _ => ?_
    have hry4 := hry.step hoff hst
    refine rF_use (lbytes_w o.b o.b hry4 (.inl rfl)) ?_
    rintro _ H6 ⟨rfl, rfl⟩
    rw [decide_eq_true (rfl : o.b = o.b)]
    rcases hyc with ⟨hb0, rfl, hH2⟩ | ⟨rfl, hH2, hbl⟩
    · repeat' first | simp (disch := first | omega | assumption | decide) only [go_sem, hm, hz, ht, hr_, hb2, hb4, hpy, AV.bytes, wdl, bind_some_, map_some_, oneD_fold] | refine ifP_in (fun _ => ?_) fun _ => ?_
      refine rL_loop (σ := Nat) (fun i e K => K = H6 ∧ (∃ t, e 8 = .b t ∧ (Dr.Live s r → t = true)) ∧ e 7 = .sl [] ∧ e 17 = .i 0) (fun i => i) 0 ?_ ?_
      · refine ⟨rfl, ⟨true, ?_, fun _ => rfl⟩, ?_, ?_⟩
        all_goals first | (simp (disch := first | assumption | omega) only [go_sem]; done) | (simp (disch := first | assumption | omega) only [go_sem]; rfl)
      · rintro i e K ⟨hK, ⟨t, g8, ht1⟩, g7, g17⟩
        have hK := hK.symm
        subst hK
        repeat' first | simp (disch := first | omega | assumption | decide) only [go_sem, hm, hz, ht, hr_, g7, g8, g17, wdl, bind_some_, map_some_, oneD_fold] | refine ifP_in (fun _ => ?_) fun _ => ?_
        exact ⟨t, rfl, ht1, _, _, hpair4, hst0.trans hst⟩
    · have hk0 : H1.length ∉ S ++ T := fun hm => by have := hlt _ hm; omega
      have hk0l : H1.length < H2.length := by rw [hH2]; simp
      obtain ⟨hrow0, hk0u⟩ := hst.at_ hk0l hk0
      have hrow : H6[H1.length]? = some (o.b.map byteA) := by rw [hrow0, hH2]; exact get_end_ _
      repeat' first | simp (disch := first | omega | assumption | decide) only [go_sem, hm, hz, ht, hr_, hb2, hb4, hpy, AV.bytes, wdl, bind_some_, map_some_, oneD_fold] | refine ifP_in (fun _ => ?_) fun _ => ?_
      refine rL_loop (σ := Nat) (fun i e K => (∃ t, e 8 = .b t ∧ (Dr.Live s r → t = true)) ∧ e 7 = .mr H1.length 0 o.b.length 1 false ∧ e 17 = .i i ∧ i ≤ o.b.length ∧ K.length = H6.length ∧ (∀ x, x ≠ H1.length → K[x]? = H6[x]?) ∧ ∃ xs : Bs, xs.length = o.b.length ∧ K[H1.length]? = some (xs.map byteA)) (fun i => o.b.length - i) 0 ?_ ?_
      · refine ⟨⟨true, ?_, fun _ => rfl⟩, ?_, ?_, by omega, rfl, fun _ _ => rfl, _, rfl, hrow⟩
        all_goals first | (simp (disch := first | assumption | omega) only [go_sem]; done) | (simp (disch := first | assumption | omega) only [go_sem]; rfl)
      · rintro i e K ⟨⟨t, g8, ht1⟩, g7, g17, i1, i2, i3, xs, x1, x2⟩
        by_cases hil : i < o.b.length
        · have hxi : xs[i]? = some xs[i] := List.getElem?_eq_getElem (by omega)
          have hwr := wrap_put ((xs[i]'(by omega)).toNat + 1) 0
          simp only [Int.pow_zero, Int.ediv_one, Nat.pow_zero, Nat.div_one] at hwr
          have hby : AV.v (.int .u8 (IntKind.u8.wrap (((xs[i]'(by omega)).toNat : Int) + 1))) = byteA (UInt8.ofNat ((xs[i]'(by omega)).toNat + 1)) := by rw [← hwr]; push_cast; rfl
          generalize xs[i]'(by omega) = v at *
          repeat' first | simp (disch := first | omega | assumption | decide) only [go_sem, hm, hz, ht, hr_, g7, g8, g17, x2, hxi, plainD_map, partD_map] | refine ifP_in (fun _ => ?_) fun _ => ?_
          rw [hby, store_row x2 (by omega), bindP_some]
          have hKl : H1.length < K.length := (List.getElem?_eq_some_iff.1 x2).1
          repeat' first | simp (disch := first | omega | assumption | decide) only [go_sem, hm, hz, ht, hr_, g7, g8, g17] | refine ifP_in (fun _ => ?_) fun _ => ?_
          exact ⟨i + 1, ⟨⟨t, rfl, ht1⟩, rfl, by omega, by simpa using i2, fun x hx => by rw [get_set_ne_ (fun e => hx e.symm)]; exact i3 x hx, xs.set i (UInt8.ofNat (v.toNat + 1)), by simpa using x1, get_set hKl⟩, by omega⟩
        · have : i = o.b.length := by omega
          subst this
          repeat' first | simp (disch := first | omega | assumption | decide) only [go_sem, hm, hz, ht, hr_, g7, g8, g17, wdl, bind_some_, map_some_, oneD_fold] | refine ifP_in (fun _ => ?_) fun _ => ?_
          refine ⟨t, rfl, ht1, _, _, hpair4.same fun x hx => i3 x (fun e => hk0u (by rw [← e]; exact hx)), ?_⟩
          refine (hst0.trans hst).off_ (by omega) fun x hx => i3 x ?_
          rintro rfl; omega
  by_cases c10 : o.kind = 10
  · have eD : doesD s o = if 0 ≤ o.room ∧ o.room ≤ 1073741824 then { s with room := o.room } else s := by simp [doesD, c10]
    have eR : doesR r o = if 0 ≤ o.room ∧ o.room ≤ 1073741824 then { r with room := o.room } else r := by simp [doesR, c10]
    rw [eD, eR]
    rw [c10] at hb2
    repeat' first | simp (disch := first | omega | assumption | decide) only [go_sem, hm, hz, ht, hr_, hb2, hpy, AV.bytes, wdl, bind_some_, map_some_, oneD_fold] | refine ifP_in (fun _ => ?_) fun _ => ?_
    refine rF_use (resize_w hpair.hd o.room) ?_
    rintro _ H3 ⟨rfl, S3, hd3, hs3⟩
    obtain ⟨hpair3, hst3⟩ := hpair.stepL hs3 hd3
    have hb3 := (hst3.at_ hboxl hboxU).1.trans hb2
    repeat' first | simp (disch := first | omega | assumption | decide) only [go_sem, hm, hz, ht, hr_, hb2, hb3, hpy, AV.bytes, wdl, bind_some_, map_some_, oneD_fold] | refine ifP_in (fun _ => ?_) fun _ => ?_
    refine rF_use (rresize_w hpair3.hr o.room) ?_
    rintro _ H4 ⟨rfl, T4, hr4, hs4⟩
    obtain ⟨hpair4, hst4⟩ := hpair3.stepR hs4 hr4
    have hst := hst3.trans hst4
    have hb4 := (hst.at_ hboxl hboxU).1.trans hb2
    have hans : Dr.Live s r → True := fun _ => trivial
    repeat' first | simp (disch := first | omega | assumption | decide) only [go_sem, hm, hz, ht, hr_, hb2, hb3, hb4, hpy, AV.bytes, wdl, bind_some_, map_some_, oneD_fold] | refine ifP_in (fun _ => ?_) fun _ => ?_
    have hry4 := hry.step hoff hst
    refine rF_use (lbytes_w o.b o.b hry4 (.inl rfl)) ?_
    rintro _ H6 ⟨rfl, rfl⟩
    rw [decide_eq_true (rfl : o.b = o.b)]
    rcases hyc with ⟨hb0, rfl, hH2⟩ | ⟨rfl, hH2, hbl⟩
    · repeat' first | simp (disch := first | omega | assumption | decide) only [go_sem, hm, hz, ht, hr_, hb2, hb4, hpy, AV.bytes, wdl, bind_some_, map_some_, oneD_fold] | refine ifP_in (fun _ => ?_) fun _ => ?_
      refine rL_loop (σ := Nat) (fun i e K => K = H6 ∧ (∃ t, e 8 = .b t ∧ (Dr.Live s r → t = true)) ∧ e 7 = .sl [] ∧ e 17 = .i 0) (fun i => i) 0 ?_ ?_
      · refine ⟨rfl, ⟨true, ?_, fun _ => rfl⟩, ?_, ?_⟩
        all_goals first | (simp (disch := first | assumption | omega) only [go_sem]; done) | (simp (disch := first | assumption | omega) only [go_sem]; rfl)
      · rintro i e K ⟨hK, ⟨t, g8, ht1⟩, g7, g17⟩
        have hK := hK.symm
        subst hK
        repeat' first | simp (disch := first | omega | assumption | decide) only [go_sem, hm, hz, ht, hr_, g7, g8, g17, wdl, bind_some_, map_some_, oneD_fold] | refine ifP_in (fun _ => ?_) fun _ => ?_
        exact ⟨t, rfl, ht1, _, _, hpair4, hst0.trans hst⟩
    · have hk0 : H1.length ∉ S ++ T := fun hm => by have := hlt _ hm; omega
      have hk0l : H1.length < H2.length := by rw [hH2]; simp
      obtain ⟨hrow0, hk0u⟩ := hst.at_ hk0l hk0
      have hrow : H6[H1.length]? = some (o.b.map byteA) := by rw [hrow0, hH2]; exact get_end_ _
      repeat' first | simp (disch := first | omega | assumption | decide) only [go_sem, hm, hz, ht, hr_, hb2, hb4, hpy, AV.bytes, wdl, bind_some_, map_some_, oneD_fold] | refine ifP_in (fun _ => ?_) fun _ => ?_
      refine rL_loop (σ := Nat) (fun i e K => (∃ t, e 8 = .b t ∧ (Dr.Live s r → t = true)) ∧ e 7 = .mr H1.length 0 o.b.length 1 false ∧ e 17 = .i i ∧ i ≤ o.b.length ∧ K.length = H6.length ∧ (∀ x, x ≠ H1.length → K[x]? = H6[x]?) ∧ ∃ xs : Bs, xs.length = o.b.length ∧ K[H1.length]? = some (xs.map byteA)) (fun i => o.b.length - i) 0 ?_ ?_
      · refine ⟨⟨true, ?_, fun _ => rfl⟩, ?_, ?_, by omega, rfl, fun _ _ => rfl, _, rfl, hrow⟩
        all_goals first | (simp (disch := first | assumption | omega) only [go_sem]; done) | (simp (disch := first | assumption | omega) only [go_sem]; rfl)
      · rintro i e K ⟨⟨t, g8, ht1⟩, g7, g17, i1, i2, i3, xs, x1, x2⟩
        by_cases hil : i < o.b.length
        · have hxi : xs[i]? = some xs[i] := List.getElem?_eq_getElem (by omega)
          have hwr := wrap_put ((xs[i]'(by omega)).toNat + 1) 0
          simp only [Int.pow_zero, Int.ediv_one, Nat.pow_zero, Nat.div_one] at hwr
          have hby : AV.v (.int .u8 (IntKind.u8.wrap (((xs[i]'(by omega)).toNat : Int) + 1))) = byteA (UInt8.ofNat ((xs[i]'(by omega)).toNat + 1)) := by rw [← hwr]; push_cast; rfl
          generalize xs[i]'(by omega) = v at *
          repeat' first | simp (disch := first | omega | assumption | decide) only [go_sem, hm, hz, ht, hr_, g7, g8, g17, x2, hxi, plainD_map, partD_map] | refine ifP_in (fun _ => ?_) fun _ => ?_
          rw [hby, store_row x2 (by omega), bindP_some]
          have hKl : H1.length < K.length := (List.getElem?_eq_some_iff.1 x2).1
          repeat' first | simp (disch := first | omega | assumption | decide) only [go_sem, hm, hz, ht, hr_, g7, g8, g17] | refine ifP_in (fun _ => ?_) fun _ => ?_
          exact ⟨i + 1, ⟨⟨t, rfl, ht1⟩, rfl, by omega, by simpa using i2, fun x hx => by rw [get_set_ne_ (fun e => hx e.symm)]; exact i3 x hx, xs.set i (UInt8.ofNat (v.toNat + 1)), by simpa using x1, get_set hKl⟩, by omega⟩
        · have : i = o.b.length := by omega
          subst this
          repeat' first | simp (disch := first | omega | assumption | decide) only [go_sem, hm, hz, ht, hr_, g7, g8, g17, wdl, bind_some_, map_some_, oneD_fold] | refine ifP_in (fun _ => ?_) fun _ => ?_
          refine ⟨t, rfl, ht1, _, _, hpair4.same fun x hx => i3 x (fun e => hk0u (by rw [← e]; exact hx)), ?_⟩
          refine (hst0.trans hst).off_ (by omega) fun x hx => i3 x ?_
          rintro rfl; omega
  · have eD : doesD s o = s := by simp [doesD, c0, c1, c2, c3, c4, c5, c6, c7, c8, c9, c10]
    have eR : doesR r o = r := by simp [doesR, c0, c1, c2, c3, c4, c5, c6, c7, c8, c9, c10]
    rw [eD, eR]
    have hans : Dr.Live s r → True := fun _ => trivial
    repeat' first | simp (disch := first | omega | assumption | decide) only [go_sem, hm, hz, ht, hr_, hb2, hpy, AV.bytes, wdl, bind_some_, map_some_, oneD_fold] | refine ifP_in (fun _ => ?_) fun _ => ?_
    obtain ⟨H4, hH4⟩ : ∃ H4, H4 = H2 := ⟨_, rfl⟩
    rw [← hH4]
    have hpair4 : Pair H4 j k S T s r := by rw [hH4]; exact hpair
    have hst : Step H2 (S ++ T) H4 (S ++ T) := by rw [hH4]; exact Step.refl _ _
    have hb4 := hb2
    rw [← hH4] at hb4
    have hry4 := hry.step hoff hst
    refine rF_use (lbytes_w o.b o.b hry4 (.inl rfl)) ?_
    rintro _ H6 ⟨rfl, rfl⟩
    rw [decide_eq_true (rfl : o.b = o.b)]
    rcases hyc with ⟨hb0, rfl, hH2⟩ | ⟨rfl, hH2, hbl⟩
    · repeat' first | simp (disch := first | omega | assumption | decide) only [go_sem, hm, hz, ht, hr_, hb2, hb4, hpy, AV.bytes, wdl, bind_some_, map_some_, oneD_fold] | refine ifP_in (fun _ => ?_) fun _ => ?_
      refine rL_loop (σ := Nat) (fun i e K => K = H6 ∧ (∃ t, e 8 = .b t ∧ (Dr.Live s r → t = true)) ∧ e 7 = .sl [] ∧ e 17 = .i 0) (fun i => i) 0 ?_ ?_
      · refine ⟨rfl, ⟨true, ?_, fun _ => rfl⟩, ?_, ?_⟩
        all_goals first | (simp (disch := first | assumption | omega) only [go_sem]; done) | (simp (disch := first | assumption | omega) only [go_sem]; rfl)
      · rintro i e K ⟨hK, ⟨t, g8, ht1⟩, g7, g17⟩
        have hK := hK.symm
        subst hK
        repeat' first | simp (disch := first | omega | assumption | decide) only [go_sem, hm, hz, ht, hr_, g7, g8, g17, wdl, bind_some_, map_some_, oneD_fold] | refine ifP_in (fun _ => ?_) fun _ => ?_
        exact ⟨t, rfl, ht1, _, _, hpair4, hst0.trans hst⟩
    · have hk0 : H1.length ∉ S ++ T := fun hm => by have := hlt _ hm; omega
      have hk0l : H1.length < H2.length := by rw [hH2]; simp
      obtain ⟨hrow0, hk0u⟩ := hst.at_ hk0l hk0
      have hrow : H6[H1.length]? = some (o.b.map byteA) := by rw [hrow0, hH2]; exact get_end_ _
      repeat' first | simp (disch := first | omega | assumption | decide) only [go_sem, hm, hz, ht, hr_, hb2, hb4, hpy, AV.bytes, wdl, bind_some_, map_some_, oneD_fold] | refine ifP_in (fun _ => ?_) fun _ => ?_
      refine rL_loop (σ := Nat) (fun i e K => (∃ t, e 8 = .b t ∧ (Dr.Live s r → t = true)) ∧ e 7 = .mr H1.length 0 o.b.length 1 false ∧ e 17 = .i i ∧ i ≤ o.b.length ∧ K.length = H6.length ∧ (∀ x, x ≠ H1.length → K[x]? = H6[x]?) ∧ ∃ xs : Bs, xs.length = o.b.length ∧ K[H1.length]? = some (xs.map byteA)) (fun i => o.b.length - i) 0 ?_ ?_
      · refine ⟨⟨true, ?_, fun _ => rfl⟩, ?_, ?_, by omega, rfl, fun _ _ => rfl, _, rfl, hrow⟩
        all_goals first | (simp (disch := first | assumption | omega) only [go_sem]; done) | (simp (disch := first | assumption | omega) only [go_sem]; rfl)
      · rintro i e K ⟨⟨t, g8, ht1⟩, g7, g17, i1, i2, i3, xs, x1, x2⟩
        by_cases hil : i < o.b.length
        · have hxi : xs[i]? = some xs[i] := List.getElem?_eq_getElem (by omega)
          have hwr := wrap_put ((xs[i]'(by omega)).toNat + 1) 0
          simp only [Int.pow_zero, Int.ediv_one, Nat.pow_zero, Nat.div_one] at hwr
          have hby : AV.v (.int .u8 (IntKind.u8.wrap (((xs[i]'(by omega)).toNat : Int) + 1))) = byteA (UInt8.ofNat ((xs[i]'(by omega)).toNat + 1)) := by rw [← hwr]; push_cast; rfl
          generalize xs[i]'(by omega) = v at *
          repeat' first | simp (disch := first | omega | assumption | decide) only [go_sem, hm, hz, ht, hr_, g7, g8, g17, x2, hxi, plainD_map, partD_map] | refine ifP_in (fun _ => ?_) fun _ => ?_
          rw [hby, store_row x2 (by omega), bindP_some]
          have hKl : H1.length < K.length := (List.getElem?_eq_some_iff.1 x2).1
          repeat' first | simp (disch := first | omega | assumption | decide) only [go_sem, hm, hz, ht, hr_, g7, g8, g17] | refine ifP_in (fun _ => ?_) fun _ => ?_
          exact ⟨i + 1, ⟨⟨t, rfl, ht1⟩, rfl, by omega, by simpa using i2, fun x hx => by rw [get_set_ne_ (fun e => hx e.symm)]; exact i3 x hx, xs.set i (UInt8.ofNat (v.toNat + 1)), by simpa using x1, get_set hKl⟩, by omega⟩
        · have : i = o.b.length := by omega
          subst this
          repeat' first | simp (disch := first | omega | assumption | decide) only [go_sem, hm, hz, ht, hr_, g7, g8, g17, wdl, bind_some_, map_some_, oneD_fold] | refine ifP_in (fun _ => ?_) fun _ => ?_
          refine ⟨t, rfl, ht1, _, _, hpair4.same fun x hx => i3 x (fun e => hk0u (by rw [← e]; exact hx)), ?_⟩
          refine (hst0.trans hst).off_ (by omega) fun x hx => i3 x ?_
          rintro rfl; omega
end Jn
end Go.Proofs
/- Walks: a disk played, held against another one. -/
set_option linter.unusedVariables false
set_option linter.unusedSimpArgs false
namespace Go.Proofs
open Go.Lv
namespace Jn
open Dk (Files Bs Ch Ev)
open Dl (DOp Small Kept doesD doesR)
variable {H : Heap}

def newD (room : Int) : Dk.Disk := ⟨room, [], [], [], [], 0, false⟩
theorem agg_opV (o : DOp) : AV.agg [.i o.kind, .i o.keep, .i o.torn, .i o.room, AV.str o.name, AV.str o.to, AV.bytes o.b, .sl (o.plan.map evA)] = opV o := rfl
theorem plain_opV (o : DOp) : plainA (opV o) = opV o := rfl
/-- What a disk that was played is. -/
structure PlayedAt (H : Heap) (room : Int) (l : List DOp) (j : Nat) : Prop where
  okr : 0 ≤ room ∧ room ≤ 1073741824
  len : l.length ≤ 100
  small : ∀ o ∈ l, Small o
  out : ∃ k S T, Pair H j k S T (l.foldl doesD (newD room)) (l.foldl doesR (newD room))
theorem kept_take {l : List DOp} {room : Int} (hr : 0 ≤ room ∧ room ≤ 1073741824) (hs : ∀ o ∈ l, Small o) (i : Nat) : Kept i ((l.take i).foldl doesD (newD room)) ((l.take i).foldl doesR (newD room)) := by
  have := Dl.Kept.fold (Dl.Kept.new room hr) (l.take i) (fun o ho => hs o (List.mem_of_mem_take ho))
  refine this.le ?_
  simp
  omega
theorem fold_take {α β : Type} (f : β → α → β) (b : β) {l : List α} {i : Nat} (hi : i < l.length) : (l.take (i + 1)).foldl f b = f ((l.take i).foldl f b) l[i] := by
  rw [List.take_succ_eq_append_getElem hi, List.foldl_append]; rfl
theorem played_w (room : Int) (l : List DOp) (hl : l.length ≤ 140737488355328) (hbig : ∀ o ∈ l, Big o) : WF Try.prog cfg 8 [.i room, .sl (l.map opV)] H (fun v H' => v = .v (.pointer none) ∨ ∃ j, v = .ptr j 0 ∧ PlayedAt H' room l j) := by
  have hm : ∀ d, cfg.muF 8 d = (false) := fun _ => rfl
  have hz : ∀ d, cfg.fzF 8 d = (false) := fun _ => rfl
  have ht : ∀ d, cfg.tkF 8 d = (false) := fun _ => rfl
  have hr_ : ∀ g, cfg.raw g = (g == 33 || g == 41) := fun _ => rfl
  refine rF_fn rfl rfl Try.func8 rfl ?_
  by_cases hg : 0 ≤ room ∧ room ≤ 1073741824
  · repeat' first | simp (disch := first | omega | assumption | decide) only [go_sem, hm, hz, ht, hr_, wdl, bind_some_, map_some_, oneD_fold] | refine ifP_in (fun _ => ?_) fun _ => ?_
    refine rF_use (new_w room hg) ?_
    rintro _ H1 ⟨rfl, ⟨S0, hd0, hS0⟩, hp1⟩
    repeat' first | simp (disch := first | omega | assumption | decide) only [go_sem, hm, hz, ht, hr_, wdl, bind_some_, map_some_, oneD_fold] | refine ifP_in (fun _ => ?_) fun _ => ?_
    refine rF_use (rnew_w room hg) ?_
    rintro _ H2 ⟨rfl, hr0, hp2⟩
    have hpair : Pair H2 (H.length + 2) H1.length S0 [H1.length] (newD room) (newD room) := ⟨hd0.grew fun x hx => pre_same hp2 hx, hr0, fun x hx hx2 => by
      have := hd0.lt x hx
      obtain rfl := List.mem_singleton.1 hx2
      omega⟩
    repeat' first | simp (disch := first | omega | assumption | decide) only [go_sem, hm, hz, ht, hr_, wdl, bind_some_, map_some_, oneD_fold] | refine ifP_in (fun _ => ?_) fun _ => ?_
    refine rF_use (few_w l hl hbig) ?_
    rintro _ H3 ⟨⟨t, rfl, ht1⟩, rfl⟩
    cases t with
    | false =>
      repeat' first | simp (disch := first | omega | assumption | decide) only [go_sem, hm, hz, ht, hr_, wdl, bind_some_, map_some_, oneD_fold] | refine ifP_in (fun _ => ?_) fun _ => ?_
      exact .inl trivial
    | true =>
      obtain ⟨hlen, hsm⟩ := ht1 rfl
      repeat' first | simp (disch := first | omega | assumption | decide) only [go_sem, hm, hz, ht, hr_, wdl, bind_some_, map_some_, oneD_fold] | refine ifP_in (fun _ => ?_) fun _ => ?_
      refine rL_loop (σ := Nat) (fun i e K => e 1 = .sl (l.map opV) ∧ e 5 = .ptr (H.length + 2) 0 ∧ e 7 = .ptr H1.length 0 ∧ e 9 = .i i ∧ i ≤ l.length ∧ ∃ S T, Pair K (H.length + 2) H1.length S T ((l.take i).foldl doesD (newD room)) ((l.take i).foldl doesR (newD room))) (fun i => l.length - i) 0 ?_ ?_
      · refine ⟨?_, ?_, ?_, ?_, by omega, _, _, hpair⟩
        all_goals first | (simp (disch := first | assumption | omega) only [go_sem]; done) | (simp (disch := first | assumption | omega) only [go_sem]; rfl)
      · rintro i e K ⟨g1, g5, g7, g9, i1, S, T, hpk⟩
        by_cases hil : i < l.length
        · have hix := ix_at' hil
          have hk := kept_take hg hsm i
          have ho := hsm _ (List.getElem_mem hil)
          have hfD := fold_take doesD (newD room) hil
          have hfR := fold_take doesR (newD room) hil
          generalize l[i] = o at *
          repeat' first | simp (disch := first | omega | assumption | decide) only [go_sem, hm, hz, ht, hr_, g1, g5, g7, g9, hix, cells_opV, agg_opV, plain_opV, wdl, bind_some_, map_some_, oneD_fold] | refine ifP_in (fun _ => ?_) fun _ => ?_
          refine rF_use (does_w' hpk hk hk (by omega) (by omega) o ho) ?_
          rintro _ K2 ⟨t, rfl, _, S2, T2, hp2, _⟩
          repeat' first | simp (disch := first | omega | assumption | decide) only [go_sem, hm, hz, ht, hr_, g1, g5, g7, g9, wdl, bind_some_, map_some_, oneD_fold] | refine ifP_in (fun _ => ?_) fun _ => ?_
          exact ⟨i + 1, ⟨rfl, by omega, S2, T2, by rw [hfD, hfR]; exact hp2⟩, by omega⟩
        · have : i = l.length := by omega
          subst this
          rw [List.take_length] at hpk
          repeat' first | simp (disch := first | omega | assumption | decide) only [go_sem, hm, hz, ht, hr_, g1, g5, g7, g9, wdl, bind_some_, map_some_, oneD_fold] | refine ifP_in (fun _ => ?_) fun _ => ?_
          exact .inr ⟨_, rfl, hg, hlen, hsm, _, _, _, hpk⟩
  · repeat' first | simp (disch := first | omega | assumption | decide) only [go_sem, hm, hz, ht, hr_, wdl, bind_some_, map_some_, oneD_fold] | refine ifP_in (fun _ => ?_) fun _ => ?_
    refine rF_use (new_bad room hg) ?_
    rintro _ H1 ⟨rfl, rfl⟩
    repeat' first | simp (disch := first | omega | assumption | decide) only [go_sem, hm, hz, ht, hr_, wdl, bind_some_, map_some_, oneD_fold] | refine ifP_in (fun _ => ?_) fun _ => ?_
    refine rF_use (rnew_bad room hg) ?_
    rintro _ H2 ⟨rfl, rfl⟩
    repeat' first | simp (disch := first | omega | assumption | decide) only [go_sem, hm, hz, ht, hr_, wdl, bind_some_, map_some_, oneD_fold] | refine ifP_in (fun _ => ?_) fun _ => ?_
    exact .inl trivial

theorem alike_w {ja jb : Nat} {Sa Sb : List Nat} {s1 s2 : Dk.Disk} (ha : DiskAt H ja Sa s1) (hb : DiskAt H jb Sb s2) (l1 : s1.now.length ≤ 1000000) (u1 : Dk.used s1.now ≤ 1073741824) (l2 : s2.now.length ≤ 1000000) (u2 : Dk.used s2.now ≤ 1073741824) :
    WF Try.prog cfg 20 [.ptr ja 0, .ptr jb 0] H (fun r H' => (∃ t, r = .b t ∧ (s1.now = s2.now → t = true)) ∧ H' = H) := by
  have hm : ∀ d, cfg.muF 20 d = (false) := fun _ => rfl
  have hz : ∀ d, cfg.fzF 20 d = (false) := fun _ => rfl
  have ht : ∀ d, cfg.tkF 20 d = (false) := fun _ => rfl
  have hr_ : ∀ g, cfg.raw g = (g == 33 || g == 41) := fun _ => rfl
  refine rF_fn rfl rfl Try.func20 rfl ?_
  have dl : ∀ f : Files, (dnames f).length = f.length := fun f => by unfold dnames; rw [List.length_mergeSort, List.length_map]
  have dl1 := dl s1.now
  have dl2 := dl s2.now
  repeat' first | simp (disch := first | omega | assumption | decide) only [go_sem, hm, hz, ht, hr_, wdl, bind_some_, map_some_, oneD_fold] | refine ifP_in (fun _ => ?_) fun _ => ?_
  refine rF_use (names_w ha l1) ?_
  rintro _ H1 ⟨rfl, rfl⟩
  repeat' first | simp (disch := first | omega | assumption | decide) only [go_sem, hm, hz, ht, hr_, wdl, bind_some_, map_some_, oneD_fold] | refine ifP_in (fun _ => ?_) fun _ => ?_
  refine rF_use (names_w hb l2) ?_
  rintro _ H2 ⟨rfl, rfl⟩
  repeat' first | simp (disch := first | omega | assumption | decide) only [go_sem, hm, hz, ht, hr_, wdl, bind_some_, map_some_, oneD_fold] | refine ifP_in (fun _ => ?_) fun _ => ?_
  refine rF_use (texts_w _ _ (by omega) (by omega)) ?_
  rintro _ H3 ⟨rfl, rfl⟩
  by_cases hn : dnames s1.now = dnames s2.now
  · rw [decide_eq_true hn]
    repeat' first | simp (disch := first | omega | assumption | decide) only [go_sem, hm, hz, ht, hr_, wdl, bind_some_, map_some_, oneD_fold] | refine ifP_in (fun _ => ?_) fun _ => ?_
    generalize hp : dnames s1.now = p at *
    refine rL_loop (σ := Nat) (fun i e K => K = H3 ∧ e 0 = .ptr ja 0 ∧ e 1 = .ptr jb 0 ∧ e 5 = .sl (p.map AV.str) ∧ e 6 = .i i ∧ i ≤ p.length) (fun i => p.length - i) 0 ?_ ?_
    · refine ⟨rfl, ?_, ?_, ?_, ?_, by omega⟩
      all_goals first | (simp (disch := first | assumption | omega) only [go_sem]; done) | (simp (disch := first | assumption | omega) only [go_sem]; rfl)
    · rintro i e K ⟨hK, g0, g1, g5, g6, i1⟩
      have hK := hK.symm
      subst hK
      by_cases hil : i < p.length
      · have hix := ix_at' hil
        generalize p[i] = x at *
        repeat' first | simp (disch := first | omega | assumption | decide) only [go_sem, hm, hz, ht, hr_, g0, g1, g5, g6, hix, cells_str, wdl, bind_some_, map_some_, oneD_fold] | refine ifP_in (fun _ => ?_) fun _ => ?_
        refine rF_use (peek_w ha u1 x) ?_
        rintro _ K1 ⟨rfl, rfl⟩
        repeat' first | simp (disch := first | omega | assumption | decide) only [go_sem, hm, hz, ht, hr_, g0, g1, g5, g6, hix, cells_str, wdl, bind_some_, map_some_, oneD_fold] | refine ifP_in (fun _ => ?_) fun _ => ?_
        refine rF_use (peek_w hb u2 x) ?_
        rintro _ K2 ⟨rfl, rfl⟩
        repeat' first | simp (disch := first | omega | assumption | decide) only [go_sem, hm, hz, ht, hr_, g0, g1, g5, g6, hix, cells_str, wdl, bind_some_, map_some_, oneD_fold] | refine ifP_in (fun _ => ?_) fun _ => ?_
        refine rF_use (lbytes_w (Dk.data s1.now x) (Dk.data s2.now x) (.inl rfl) (.inl rfl)) ?_
        rintro _ K3 ⟨rfl, rfl⟩
        by_cases he : Dk.data s1.now x = Dk.data s2.now x
        · rw [decide_eq_true he]
          repeat' first | simp (disch := first | omega | assumption | decide) only [go_sem, hm, hz, ht, hr_, g0, g1, g5, g6, wdl, bind_some_, map_some_, oneD_fold] | refine ifP_in (fun _ => ?_) fun _ => ?_
          exact ⟨i + 1, ⟨rfl, by omega⟩, by omega⟩
        · rw [decide_eq_false he]
          repeat' first | simp (disch := first | omega | assumption | decide) only [go_sem, hm, hz, ht, hr_, g0, g1, g5, g6, wdl, bind_some_, map_some_, oneD_fold] | refine ifP_in (fun _ => ?_) fun _ => ?_
          exact ⟨false, rfl, fun h => absurd (by rw [h]) he⟩
      · have : i = p.length := by omega
        subst this
        repeat' first | simp (disch := first | omega | assumption | decide) only [go_sem, hm, hz, ht, hr_, g0, g1, g5, g6, wdl, bind_some_, map_some_, oneD_fold] | refine ifP_in (fun _ => ?_) fun _ => ?_
        exact ⟨true, rfl, fun _ => rfl⟩
  · rw [decide_eq_false hn]
    repeat' first | simp (disch := first | omega | assumption | decide) only [go_sem, hm, hz, ht, hr_, wdl, bind_some_, map_some_, oneD_fold] | refine ifP_in (fun _ => ?_) fun _ => ?_
    exact ⟨false, rfl, fun h => absurd (by rw [h]) hn⟩

theorem same_w {j k : Nat} {S T : List Nat} {n : Int} {s r : Dk.Disk} (hp : Pair H j k S T s r) (hk : Kept n s r) (hn : n ≤ 1000) : WF Try.prog cfg 32 [.ptr j 0, .ptr k 0] H (fun v H' => v = .b true ∧ H' = H) := by
  obtain ⟨l1, l2, u1, u2⟩ := Kept.nowLen hk hn
  have hnow := hk.live.two.nowR
  have hcalls := hk.live.two.calls
  have hused := hnow.used
  have hpend := hk.live.two.pend
  have hdown := hk.live.two.down
  have hnm := dnames_eq hnow
  have hdl : (dnames s.now).length = s.now.length := by unfold dnames; rw [List.length_mergeSort, List.length_map]
  have hm : ∀ d, cfg.muF 32 d = (false) := fun _ => rfl
  have hz : ∀ d, cfg.fzF 32 d = (false) := fun _ => rfl
  have ht : ∀ d, cfg.tkF 32 d = (false) := fun _ => rfl
  have hr_ : ∀ g, cfg.raw g = (g == 33 || g == 41) := fun _ => rfl
  refine rF_fn rfl rfl Try.func32 rfl ?_
  repeat' first | simp (disch := first | omega | assumption | decide) only [go_sem, hm, hz, ht, hr_, wdl, bind_some_, map_some_, oneD_fold] | refine ifP_in (fun _ => ?_) fun _ => ?_
  refine rF_use (calls_w hp.hd) ?_
  rintro _ H1 ⟨rfl, rfl⟩
  repeat' first | simp (disch := first | omega | assumption | decide) only [go_sem, hm, hz, ht, hr_, wdl, bind_some_, map_some_, oneD_fold] | refine ifP_in (fun _ => ?_) fun _ => ?_
  refine rF_use (rcalls_w hp.hr) ?_
  rintro _ H2 ⟨rfl, rfl⟩
  have e1 : ¬ (s.calls ≠ r.calls) := by rw [hcalls]; simp
  repeat' first | simp (disch := first | omega | assumption | decide) only [go_sem, hm, hz, ht, hr_, wdl, bind_some_, map_some_, oneD_fold] | refine ifP_in (fun _ => ?_) fun _ => ?_
  refine rF_use (used_w hp.hd u1) ?_
  rintro _ H3 ⟨rfl, rfl⟩
  repeat' first | simp (disch := first | omega | assumption | decide) only [go_sem, hm, hz, ht, hr_, wdl, bind_some_, map_some_, oneD_fold] | refine ifP_in (fun _ => ?_) fun _ => ?_
  refine rF_use (rusedD_w hp.hr l2 u2) ?_
  rintro _ H4 ⟨rfl, rfl⟩
  have e2 : ¬ ((Dk.used s.now : Int) ≠ Dk.used r.now) := by rw [hused]; simp
  repeat' first | simp (disch := first | omega | assumption | decide) only [go_sem, hm, hz, ht, hr_, wdl, bind_some_, map_some_, oneD_fold] | refine ifP_in (fun _ => ?_) fun _ => ?_
  refine rF_use (pending_w hp.hd) ?_
  rintro _ H5 ⟨rfl, rfl⟩
  repeat' first | simp (disch := first | omega | assumption | decide) only [go_sem, hm, hz, ht, hr_, wdl, bind_some_, map_some_, oneD_fold] | refine ifP_in (fun _ => ?_) fun _ => ?_
  refine rF_use (rpending_w hp.hr) ?_
  rintro _ H6 ⟨rfl, rfl⟩
  have e3 : ¬ ((s.pend.length : Int) ≠ r.pend.length) := by rw [hpend]; simp
  repeat' first | simp (disch := first | omega | assumption | decide) only [go_sem, hm, hz, ht, hr_, wdl, bind_some_, map_some_, oneD_fold] | refine ifP_in (fun _ => ?_) fun _ => ?_
  refine rF_use (up_w hp.hd) ?_
  rintro _ H7 ⟨rfl, rfl⟩
  repeat' first | simp (disch := first | omega | assumption | decide) only [go_sem, hm, hz, ht, hr_, wdl, bind_some_, map_some_, oneD_fold] | refine ifP_in (fun _ => ?_) fun _ => ?_
  refine rF_use (rup_w hp.hr) ?_
  rintro _ H8 ⟨rfl, rfl⟩
  rw [hdown]
  generalize (!r.down) = q
  cases q
  all_goals
    repeat' first | simp (disch := first | omega | assumption | decide) only [go_sem, hm, hz, ht, hr_, wdl, bind_some_, map_some_, oneD_fold] | refine ifP_in (fun _ => ?_) fun _ => ?_
    · rename_i hx
      exact absurd hx (by simp)
    refine rF_use (names_w hp.hd l1) ?_
    rintro _ H9 ⟨rfl, rfl⟩
    repeat' first | simp (disch := first | omega | assumption | decide) only [go_sem, hm, hz, ht, hr_, wdl, bind_some_, map_some_, oneD_fold] | refine ifP_in (fun _ => ?_) fun _ => ?_
    refine rF_use (rnames_w hp.hr l2) ?_
    rintro _ H10 ⟨rfl, rfl⟩
    repeat' first | simp (disch := first | omega | assumption | decide) only [go_sem, hm, hz, ht, hr_, wdl, bind_some_, map_some_, oneD_fold] | refine ifP_in (fun _ => ?_) fun _ => ?_
    refine rF_use (texts_w _ _ (by omega) (by rw [List.length_map]; omega)) ?_
    rintro _ H11 ⟨rfl, rfl⟩
    rw [decide_eq_true hnm]
    repeat' first | simp (disch := first | omega | assumption | decide) only [go_sem, hm, hz, ht, hr_, wdl, bind_some_, map_some_, oneD_fold] | refine ifP_in (fun _ => ?_) fun _ => ?_
    generalize hpp : dnames s.now = p at *
    refine rL_loop (σ := Nat) (fun i e K => K = H11 ∧ e 0 = .ptr j 0 ∧ e 1 = .ptr k 0 ∧ e 5 = .sl (p.map AV.str) ∧ e 6 = .i i ∧ i ≤ p.length) (fun i => p.length - i) 0 ?_ ?_
    · refine ⟨rfl, ?_, ?_, ?_, ?_, by omega⟩
      all_goals first | (simp (disch := first | assumption | omega) only [go_sem]; done) | (simp (disch := first | assumption | omega) only [go_sem]; rfl)
    · rintro i e K ⟨hK, g0, g1, g5, g6, i1⟩
      have hK := hK.symm
      subst hK
      by_cases hil : i < p.length
      · have hix := ix_at' hil
        generalize p[i] = x at *
        repeat' first | simp (disch := first | omega | assumption | decide) only [go_sem, hm, hz, ht, hr_, g0, g1, g5, g6, hix, cells_str, wdl, bind_some_, map_some_, oneD_fold] | refine ifP_in (fun _ => ?_) fun _ => ?_
        refine rF_use (peek_w hp.hd u1 x) ?_
        rintro _ K1 ⟨rfl, rfl⟩
        repeat' first | simp (disch := first | omega | assumption | decide) only [go_sem, hm, hz, ht, hr_, g0, g1, g5, g6, hix, cells_str, wdl, bind_some_, map_some_, oneD_fold] | refine ifP_in (fun _ => ?_) fun _ => ?_
        refine rF_use (rpeek_w hp.hr l2 u2 x) ?_
        rintro _ K2 ⟨rfl, rfl⟩
        repeat' first | simp (disch := first | omega | assumption | decide) only [go_sem, hm, hz, ht, hr_, g0, g1, g5, g6, hix, cells_str, wdl, bind_some_, map_some_, oneD_fold] | refine ifP_in (fun _ => ?_) fun _ => ?_
        refine rF_use (lbytes_w (Dk.data s.now x) (Dk.data r.now x) (.inl rfl) (.inl rfl)) ?_
        rintro _ K3 ⟨rfl, rfl⟩
        rw [decide_eq_true (hnow.data x).symm, ← hnow.has x]
        generalize Dk.has r.now x = q
        cases q
        all_goals
          repeat' first | simp (disch := first | omega | assumption | decide) only [go_sem, hm, hz, ht, hr_, g0, g1, g5, g6, wdl, bind_some_, map_some_, oneD_fold] | refine ifP_in (fun _ => ?_) fun _ => ?_
          exact ⟨i + 1, ⟨rfl, by omega⟩, by omega⟩
      · have : i = p.length := by omega
        subst this
        repeat' first | simp (disch := first | omega | assumption | decide) only [go_sem, hm, hz, ht, hr_, g0, g1, g5, g6, wdl, bind_some_, map_some_, oneD_fold] | refine ifP_in (fun _ => ?_) fun _ => ?_
end Jn
end Go.Proofs
set_option linter.unusedVariables false
set_option linter.unusedSimpArgs false
/-! What the disk's laws say, in plain Lean. -/
namespace Dl
open Dk (Files Bs Ch Ev Disk make del data used Len)
theorem get_set_same (f : Files) (n b : Bs) : Dk.get (Dk.set f n b) n = some b := by
  induction f with
  | nil => simp [Dk.set, Dk.get]
  | cons p f ih =>
    obtain ⟨k, v⟩ := p
    unfold Dk.set
    by_cases h : n = k
    · rw [if_pos h]; unfold Dk.get; rw [if_pos h]
    · rw [if_neg h]; unfold Dk.get; rw [if_neg h]; exact ih
theorem get_set_ne (f : Files) {n m : Bs} (b : Bs) (hm : m ≠ n) : Dk.get (Dk.set f n b) m = Dk.get f m := by
  induction f with
  | nil => simp [Dk.set, Dk.get, hm]
  | cons p f ih =>
    obtain ⟨k, v⟩ := p
    unfold Dk.set
    by_cases h : n = k
    · rw [if_pos h]; unfold Dk.get; rw [if_neg (fun e => hm (e.trans h.symm)), if_neg (fun e => hm (e.trans h.symm))]
    · rw [if_neg h]; unfold Dk.get; rw [ih]
theorem get_del_ne (f : Files) {n m : Bs} (hm : m ≠ n) : Dk.get (del f n) m = Dk.get f m := by
  induction f with
  | nil => rfl
  | cons p f ih =>
    obtain ⟨k, v⟩ := p
    unfold del
    by_cases h : n = k
    · rw [if_pos h]; conv => rhs; unfold Dk.get
      rw [if_neg (fun e => hm (e.trans h.symm))]
    · rw [if_neg h]; unfold Dk.get; rw [ih]
theorem get_del_same {f : Files} (n : Bs) (h : Dr.Nod f) : Dk.get (del f n) n = none := by
  rw [Dr.del_eq h]
  cases hg : Dk.get (Dr.without f n) n with
  | none => rfl
  | some v => exact absurd rfl (Dr.mem_without.1 ((Dr.get_mem (Dr.nod_filter h)).1 hg)).2
/-- Without events. -/
theorem events0 {s : Disk} (h : s.plan = []) : Dk.events s = ({ s with calls := s.calls + 1 }, false, false) := by
  unfold Dk.events
  rw [h]; rfl
theorem call0 {s : Disk} (h : s.plan = []) (hd : s.down = false) (names : List Bs) : Dk.call s names = ({ s with calls := s.calls + 1 }, false, if names.all Dk.nameOk = false then 4 else 0) := by
  unfold Dk.call
  rw [events0 h]
  simp [hd]
theorem sync0 {s : Disk} (h : s.plan = []) (hd : s.down = false) : Dk.sync s = ({ s with calls := s.calls + 1, dur := s.now, pend := [] }, 0) := by
  unfold Dk.sync
  rw [call0 h hd]
  simp
theorem rename0 {s : Disk} (h : s.plan = []) (hd : s.down = false) (a b : Bs) :
    ((Dk.rename s a b).2 = 0 ∧ Dk.has s.now a = true ∧ ((a = b ∧ (Dk.rename s a b).1.now = s.now) ∨ (a ≠ b ∧ (Dk.rename s a b).1.now = make s.now ⟨b, a, [], false, false⟩ ∧ a ≠ []))) ∨ ((Dk.rename s a b).2 ≠ 0 ∧ (Dk.rename s a b).1.now = s.now) := by
  unfold Dk.rename
  rw [call0 h hd]
  simp only
  by_cases hn : [a, b].all Dk.nameOk = false
  · right
    rw [if_pos hn, if_pos (by decide)]
    exact ⟨by simp, rfl⟩
  · rw [if_neg hn, if_neg (by simp)]
    cases hh : Dk.has s.now a with
    | false =>
      right
      rw [if_pos rfl]
      exact ⟨by simp, rfl⟩
    | true =>
      left
      rw [if_neg (by simp)]
      by_cases hab : a = b
      · rw [if_pos hab]
        exact ⟨rfl, rfl, .inl ⟨hab, rfl⟩⟩
      · rw [if_neg hab]
        refine ⟨rfl, rfl, .inr ⟨hab, rfl, ?_⟩⟩
        rintro rfl
        exact hn (by simp [Dk.nameOk])
theorem append0 {s : Disk} (h : s.plan = []) (hd : s.down = false) (n b : Bs) :
    ((Dk.append s n b).2 = 0 ∧ (Dk.append s n b).1.now = Dk.set s.now n (data s.now n ++ b)) ∨ ((Dk.append s n b).2 ≠ 0 ∧ (Dk.append s n b).1.now = s.now) := by
  unfold Dk.append
  rw [call0 h hd]
  simp only
  by_cases hn : [n].all Dk.nameOk = false
  · right
    rw [if_pos hn, if_pos (by decide)]
    exact ⟨by simp, rfl⟩
  · rw [if_neg hn, if_neg (by simp)]
    unfold Dk.lay
    split
    · right
      exact ⟨by simp, rfl⟩
    · left
      refine ⟨rfl, ?_⟩
      simp [Dk.does, make]
theorem ite_down {α : Type} {c : Prop} [Decidable c] {x y : Disk × α} (hx : x.1.down = false) (hy : y.1.down = false) : (if c then x else y).1.down = false := by split <;> assumption
theorem rename_down {s : Disk} (h : s.plan = []) (hd : s.down = false) (a b : Bs) : (Dk.rename s a b).1.down = false := by
  unfold Dk.rename
  rw [call0 h hd]
  exact ite_down hd (ite_down hd (ite_down hd hd))
/-- What was renamed. -/
theorem moved {f : Files} (hn : Dr.Nod f) {a b : Bs} (hab : a ≠ b) (ha : a ≠ []) : data (make f ⟨b, a, [], false, false⟩) b = data f a ∧ Dk.has (make f ⟨b, a, [], false, false⟩) b = true ∧ Dk.has (make f ⟨b, a, [], false, false⟩) a = false := by
  unfold make
  simp only [Bool.false_eq_true, if_false, ne_eq, ha, not_false_eq_true, if_true]
  unfold Dk.has data
  rw [get_set_same, get_set_ne _ _ hab, get_del_same a hn]
  exact ⟨rfl, rfl, rfl⟩
theorem data_set (f : Files) (n b : Bs) : data (Dk.set f n b) n = b ∧ Dk.has (Dk.set f n b) n = true := by
  unfold data Dk.has
  rw [get_set_same]
  exact ⟨rfl, rfl⟩

/-! ### Room -/
theorem sum_data {f : Files} (h : Dr.Nod f) : (f.map fun p => (data f p.1).length) = f.map fun p => p.2.length := by
  apply List.map_congr_left
  intro p hp
  unfold data
  rw [(Dr.get_mem (n := p.1) (v := p.2) h).2 hp]
  rfl
/-- No more than R bytes, whatever part of what is pending stays. -/
structure Under (R : Int) (s : Disk) : Prop where
  size : ∀ k, (used ((s.pend.take k).foldl make s.dur) : Int) ≤ R
  room : s.room ≤ R
theorem Under.fallen {R : Int} {s : Disk} (h : Under R s) (keep part : Int) : (used (Dk.fallen s keep part) : Int) ≤ R := by
  unfold Dk.fallen
  simp only
  have h1 := h.size (Dk.kept s keep)
  split
  · rename_i c hc
    split
    · rename_i c' hc'
      have hl := (List.getElem?_eq_some_iff.1 hc).1
      have h2 := h.size (Dk.kept s keep + 1)
      rw [Dk.fold_snoc s _ hl] at h2
      have h3 := Dk.used_torn ((s.pend.take (Dk.kept s keep)).foldl make s.dur) c c' part hc'
      have : s.pend[Dk.kept s keep] = c := (List.getElem?_eq_some_iff.1 hc).2
      rw [this] at h2
      omega
    · exact h1
  · exact h1
theorem Under.crash {R : Int} {s : Disk} (h : Under R s) (keep part : Int) : Under R (Dk.crash s keep part) := by
  unfold Dk.crash
  split
  · exact h
  · exact ⟨fun k => by simpa using h.fallen keep part, h.room⟩
theorem Under.ev {R : Int} {st : Disk × Bool × Bool} (h : Under R st.1) (e : Ev) : Under R (Dk.evStep st e).1 := by
  unfold Dk.evStep
  split
  · exact h
  · split
    · exact h.crash _ _
    · split
      · exact h
      · split <;> exact h
theorem Under.events {R : Int} {s : Disk} (h : Under R s) : Under R (Dk.events s).1 := by
  unfold Dk.events
  have : ∀ (l : List Ev) (st : Disk × Bool × Bool), Under R st.1 → Under R (l.foldl Dk.evStep st).1 := by
    intro l
    induction l with
    | nil => intro st h; exact h
    | cons e l ih => intro st h; exact ih _ (h.ev e)
  exact this _ _ ⟨h.size, h.room⟩
theorem Under.change {R : Int} {s : Disk} (h : Under R s) (hok : Dk.Ok s) (c : Ch) (hu : (used (make s.now c) : Int) ≤ R) : Under R (Dk.does s c) := by
  refine ⟨fun k => ?_, h.room⟩
  simp only [Dk.does]
  rcases Nat.lt_or_ge s.pend.length k with hk | hk
  · rw [List.take_of_length_le (by simp; omega), List.foldl_append, ← hok.now]
    exact hu
  · rw [List.take_append_of_le_length hk]
    exact h.size k
theorem Under.now {R : Int} {s : Disk} (h : Under R s) (hok : Dk.Ok s) : (used s.now : Int) ≤ R := by
  have := h.size s.pend.length
  rwa [List.take_length, ← hok.now] at this
theorem Under.does {R : Int} {s : Disk} (h : Under R s) (hok : Dk.Ok s) (o : DOp) (hk : o.kind ≠ 10) : Under R (doesD s o) := by
  have he := h.events
  have hoe := hok.events
  have hr := he.room
  have hn := he.now hoe
  unfold doesD
  by_cases c0 : o.kind = 0
  · rw [if_pos c0]
    unfold Dk.write
    simp only [show (Dk.call s [o.name]).1 = (Dk.events s).1 from rfl]
    split
    · exact he
    · unfold Dk.lay
      split
      · exact he
      · rename_i hf
        refine he.change hoe _ ?_
        have hu := Dr.used_write (Dk.events s).1.now o.name o.b ⟨o.name, [], o.b, true, false⟩ rfl rfl
        simp only at hu
        have : ¬ ((Dk.events s).1.room - used (Dk.events s).1.now < (o.b.length : Int) - (data (Dk.events s).1.now o.name).length) := fun hx => hf (.inr hx)
        omega
  rw [if_neg c0]
  by_cases c1 : o.kind = 1
  · rw [if_pos c1]
    unfold Dk.append
    simp only [show (Dk.call s [o.name]).1 = (Dk.events s).1 from rfl]
    split
    · exact he
    · unfold Dk.lay
      split
      · exact he
      · rename_i hf
        refine he.change hoe _ ?_
        have hu := Dr.used_append (Dk.events s).1.now ⟨o.name, [], o.b, false, true⟩ rfl
        simp only at hu
        have : ¬ ((Dk.events s).1.room - used (Dk.events s).1.now < (o.b.length : Int)) := fun hx => hf (.inr hx)
        omega
  rw [if_neg c1]
  by_cases c2 : o.kind = 2
  · rw [if_pos c2]
    unfold Dk.rename
    simp only [show (Dk.call s [o.name, o.to]).1 = (Dk.events s).1 from rfl]
    split
    · exact he
    · split
      · exact he
      · split
        · exact he
        · refine he.change hoe _ ?_
          have := Dr.used_rest (Dk.events s).1.now ⟨o.to, o.name, [], false, false⟩ rfl rfl
          omega
  rw [if_neg c2]
  by_cases c3 : o.kind = 3
  · rw [if_pos c3]
    unfold Dk.delete
    simp only [show (Dk.call s [o.name]).1 = (Dk.events s).1 from rfl]
    split
    · exact he
    · split
      · exact he
      · refine he.change hoe _ ?_
        have := Dr.used_rest (Dk.events s).1.now ⟨o.name, [], [], false, false⟩ rfl rfl
        omega
  rw [if_neg c3]
  by_cases c4 : o.kind = 4
  · rw [if_pos c4]
    unfold Dk.sync
    simp only [show (Dk.call s []).1 = (Dk.events s).1 from rfl]
    split
    · exact he
    · exact ⟨fun k => by simpa using hn, hr⟩
  rw [if_neg c4]
  by_cases c5 : o.kind = 5
  · rw [if_pos c5]
    unfold Dk.read
    simp only [show (Dk.call s [o.name]).1 = (Dk.events s).1 from rfl]
    split
    · exact he
    · split <;> exact he
  rw [if_neg c5]
  by_cases c6 : o.kind = 6
  · rw [if_pos c6]; exact he
  rw [if_neg c6]
  by_cases c7 : o.kind = 7
  · rw [if_pos c7]; exact h.crash _ _
  rw [if_neg c7]
  by_cases c8 : o.kind = 8
  · rw [if_pos c8]; exact ⟨h.size, h.room⟩
  rw [if_neg c8]
  by_cases c9 : o.kind = 9
  · rw [if_pos c9]; exact ⟨h.size, h.room⟩
  rw [if_neg c9, if_neg hk]
  exact h
theorem Under.fold {R : Int} : ∀ (l : List DOp) {s r : Disk} {n : Int}, Under R s → Kept n s r → (∀ o ∈ l, Small o) → (∀ o ∈ l, o.kind ≠ 10) → Under R (l.foldl doesD s) := by
  intro l
  induction l with
  | nil => intro s r n h _ _ _; exact h
  | cons o l ih =>
    intro s r n h hk hs hn
    exact ih (h.does hk.live.two.ok o (hn o (by simp))) (hk.does (hs o (by simp))) (fun x hx => hs x (List.mem_cons_of_mem _ hx)) (fun x hx => hn x (List.mem_cons_of_mem _ hx))
theorem Under.new (room : Int) (h : 0 ≤ room) : Under room ⟨room, [], [], [], [], 0, false⟩ := ⟨fun k => by simpa [used] using h, Int.le_refl _⟩

/-- One event, at the next call. -/
theorem write1 {s : Disk} {kind : Int} (hp : s.plan = [⟨s.calls + 1, kind, 0, 0⟩]) (hd : s.down = false) (n b : Bs) :
    (Dk.write s n b).1.calls = s.calls + 1 ∧ (kind ≠ 1 → (Dk.write s n b).2 ≠ 0 → (Dk.write s n b).1.now = s.now) ∧ (kind = 3 → (Dk.write s n b).2 = 8) ∧ (kind = 2 → (Dk.write s n b).2 ≠ 0) ∧ (kind = 1 → (Dk.write s n b).2 = 9) := by
  have he : Dk.events s = Dk.evStep ({ s with calls := s.calls + 1 }, false, false) ⟨s.calls + 1, kind, 0, 0⟩ := by unfold Dk.events; rw [hp]; rfl
  have hev : Dk.evStep ({ s with calls := s.calls + 1 }, false, false) ⟨s.calls + 1, kind, 0, 0⟩ = if kind = 1 then (Dk.crash { s with calls := s.calls + 1 } 0 0, false, false) else if kind = 2 then ({ s with calls := s.calls + 1 }, true, false) else if kind = 3 then ({ s with calls := s.calls + 1 }, false, true) else ({ s with calls := s.calls + 1 }, false, false) := by
    unfold Dk.evStep
    rw [if_neg (by simp)]
  rw [hev] at he
  by_cases k1 : kind = 1
  · rw [if_pos k1] at he
    have hc : Dk.crash { s with calls := s.calls + 1 } 0 0 = { s with calls := s.calls + 1, now := Dk.fallen { s with calls := s.calls + 1 } 0 0, dur := Dk.fallen { s with calls := s.calls + 1 } 0 0, pend := [], down := true } := by
      unfold Dk.crash; rw [if_neg (by simp [hd])]
    have hw : Dk.write s n b = ((Dk.events s).1, 9) := by
      unfold Dk.write Dk.call
      rw [he, hc]
      simp
    rw [hw, he, hc]
    exact ⟨rfl, fun h => absurd k1 h, fun h => by omega, fun h => by omega, fun _ => rfl⟩
  rw [if_neg k1] at he
  by_cases k2 : kind = 2
  · rw [if_pos k2] at he
    have hw : Dk.write s n b = ({ s with calls := s.calls + 1 }, if [n].all Dk.nameOk = false then 4 else 7) := by
      unfold Dk.write Dk.call
      rw [he]
      simp only [hd, Bool.false_eq_true, if_false]
      split
      · rw [if_pos (by decide)]
      · rw [if_neg (by simp)]; unfold Dk.lay; rw [if_pos (.inl rfl)]
    rw [hw]
    exact ⟨rfl, fun _ _ => rfl, fun h => by omega, fun _ => by simp only; split <;> decide, fun h => absurd h k1⟩
  rw [if_neg k2] at he
  by_cases k3 : kind = 3
  · rw [if_pos k3] at he
    have hw : Dk.write s n b = ({ s with calls := s.calls + 1 }, 8) := by
      unfold Dk.write Dk.call
      rw [he]
      simp [hd]
    rw [hw]
    exact ⟨rfl, fun _ _ => rfl, fun _ => rfl, fun h => absurd h k2, fun h => absurd h k1⟩
  rw [if_neg k3] at he
  have hw : Dk.write s n b = if [n].all Dk.nameOk = false then ({ s with calls := s.calls + 1 }, 4) else Dk.lay { s with calls := s.calls + 1 } ⟨n, [], b, true, false⟩ ((b.length : Int) - (data s.now n).length) false := by
    unfold Dk.write Dk.call
    rw [he]
    simp only [hd, Bool.false_eq_true, if_false]
    by_cases hnm : [n].all Dk.nameOk = false
    · rw [if_pos hnm, if_pos hnm, if_pos (by decide)]
    · rw [if_neg hnm, if_neg hnm, if_neg (by simp)]
  rw [hw]
  by_cases hnm : [n].all Dk.nameOk = false
  · rw [if_pos hnm]
    exact ⟨rfl, fun _ _ => rfl, fun h => absurd h k3, fun h => absurd h k2, fun h => absurd h k1⟩
  · rw [if_neg hnm]
    unfold Dk.lay
    split
    · exact ⟨rfl, fun _ _ => rfl, fun h => absurd h k3, fun h => absurd h k2, fun h => absurd h k1⟩
    · exact ⟨rfl, fun _ h0 => absurd rfl h0, fun h => absurd h k3, fun h => absurd h k2, fun h => absurd h k1⟩

/-! ### What stays -/
structure Touch (named : List Bs) (d0 : Files) (s : Disk) : Prop where
  dur : s.dur = d0
  pend : ∀ c ∈ s.pend, c.name ∈ named ∧ (c.frm ≠ [] → c.frm ∈ named)
  plan : s.plan = []
  down : s.down = false
theorem Touch.more {named : List Bs} {d0 : Files} {s : Disk} (h : Touch named d0 s) (l : List Bs) : Touch (named ++ l) d0 s :=
  ⟨h.dur, fun c hc => ⟨List.mem_append_left _ (h.pend c hc).1, fun hf => List.mem_append_left _ ((h.pend c hc).2 hf)⟩, h.plan, h.down⟩
theorem Touch.call {named : List Bs} {d0 : Files} {s : Disk} (h : Touch named d0 s) : Touch named d0 { s with calls := s.calls + 1 } := ⟨h.dur, h.pend, h.plan, h.down⟩
theorem Touch.change {named : List Bs} {d0 : Files} {s : Disk} (h : Touch named d0 s) (c : Ch) (h1 : c.name ∈ named) (h2 : c.frm ≠ [] → c.frm ∈ named) : Touch named d0 (Dk.does s c) :=
  ⟨h.dur, fun x hx => by
    simp only [Dk.does, List.mem_append, List.mem_singleton] at hx
    rcases hx with hx | rfl
    · exact h.pend x hx
    · exact ⟨h1, h2⟩, h.plan, h.down⟩
theorem touch_ite {named : List Bs} {d0 : Files} {α : Type} {c : Prop} [Decidable c] {x y : Disk × α} (hx : Touch named d0 x.1) (hy : Touch named d0 y.1) : Touch named d0 (if c then x else y).1 := by split <;> assumption
theorem Touch.does {named : List Bs} {d0 : Files} {s : Disk} (h : Touch named d0 s) (o : DOp) (hk : 0 ≤ o.kind ∧ o.kind ≤ 6 ∧ o.kind ≠ 4) : Touch (named ++ [o.name, o.to]) d0 (doesD s o) := by
  have hm := (h.more [o.name, o.to]).call
  have m1 : o.name ∈ named ++ [o.name, o.to] := by simp
  have m2 : o.to ∈ named ++ [o.name, o.to] := by simp
  unfold doesD
  by_cases c0 : o.kind = 0
  · rw [if_pos c0]
    unfold Dk.write Dk.lay
    rw [call0 h.plan h.down]
    exact touch_ite hm (touch_ite hm (hm.change ⟨o.name, [], o.b, true, false⟩ m1 (by simp)))
  rw [if_neg c0]
  by_cases c1 : o.kind = 1
  · rw [if_pos c1]
    unfold Dk.append Dk.lay
    rw [call0 h.plan h.down]
    exact touch_ite hm (touch_ite hm (hm.change ⟨o.name, [], o.b, false, true⟩ m1 (by simp)))
  rw [if_neg c1]
  by_cases c2 : o.kind = 2
  · rw [if_pos c2]
    unfold Dk.rename
    rw [call0 h.plan h.down]
    exact touch_ite hm (touch_ite hm (touch_ite hm (hm.change ⟨o.to, o.name, [], false, false⟩ m2 (fun _ => m1))))
  rw [if_neg c2]
  by_cases c3 : o.kind = 3
  · rw [if_pos c3]
    unfold Dk.delete
    rw [call0 h.plan h.down]
    exact touch_ite hm (touch_ite hm (hm.change ⟨o.name, [], [], false, false⟩ m1 (by simp)))
  rw [if_neg c3, if_neg hk.2.2]
  by_cases c5 : o.kind = 5
  · rw [if_pos c5]
    unfold Dk.read
    rw [call0 h.plan h.down]
    refine touch_ite hm ?_
    simp only
    cases Dk.get s.now o.name <;> exact hm
  rw [if_neg c5, if_pos (by omega), call0 h.plan h.down]
  exact hm
theorem get_make_ne {f : Files} {c : Ch} {n : Bs} (h1 : n ≠ c.name) (h2 : c.frm ≠ [] → n ≠ c.frm) : Dk.get (make f c) n = Dk.get f n := by
  unfold make
  split
  · exact get_set_ne _ _ h1
  · split
    · exact get_set_ne _ _ h1
    · split
      · rename_i hf
        rw [get_set_ne _ _ h1, get_del_ne _ (h2 hf)]
      · exact get_del_ne _ h1
theorem get_fold {named : List Bs} {n : Bs} (hn : n ∉ named) : ∀ (l : List Ch) (f : Files), (∀ c ∈ l, c.name ∈ named ∧ (c.frm ≠ [] → c.frm ∈ named)) → Dk.get (l.foldl make f) n = Dk.get f n := by
  intro l
  induction l with
  | nil => intro f _; rfl
  | cons c l ih =>
    intro f h
    rw [List.foldl_cons, ih _ (fun x hx => h x (List.mem_cons_of_mem _ hx))]
    obtain ⟨h1, h2⟩ := h c (by simp)
    exact get_make_ne (fun e => hn (e ▸ h1)) (fun hf e => hn (e ▸ h2 hf))
theorem torn_names {c c' : Ch} {k : Int} (h : Dk.torn c k = some c') : c'.name = c.name ∧ c'.frm = c.frm := by
  unfold Dk.torn at h
  split at h
  · cases h
  · injection h with h; subst h; exact ⟨rfl, rfl⟩
theorem Touch.fallen {named : List Bs} {d0 : Files} {s : Disk} (h : Touch named d0 s) {n : Bs} (hn : n ∉ named) (keep part : Int) : Dk.get (Dk.fallen s keep part) n = Dk.get d0 n := by
  have h1 : ∀ k, Dk.get ((s.pend.take k).foldl make s.dur) n = Dk.get d0 n := fun k => by rw [get_fold hn _ _ (fun c hc => h.pend c (List.mem_of_mem_take hc)), h.dur]
  unfold Dk.fallen
  simp only
  split
  · rename_i c hc
    split
    · rename_i c' hc'
      obtain ⟨e1, e2⟩ := torn_names hc'
      obtain ⟨p1, p2⟩ := h.pend c (List.mem_of_getElem? hc)
      rw [get_make_ne (fun e => hn (by rw [e, e1]; exact p1)) (fun hf e => hn (by rw [e, e2]; exact p2 (by rw [← e2]; exact hf)))]
      exact h1 _
    · exact h1 _
  · exact h1 _
theorem fallen_all {s : Disk} (hok : Dk.Ok s) (hl : s.pend.length ≤ 1000000) : Dk.fallen s 1073741824 (-1) = s.now := by
  have hk : Dk.kept s 1073741824 = s.pend.length := by unfold Dk.kept; omega
  unfold Dk.fallen
  simp only
  rw [hk, List.take_length, List.getElem?_eq_none (Nat.le_refl _), hok.now]
theorem fallen_none {s : Disk} : Dk.fallen s 0 (-1) = s.dur := by
  have hk : Dk.kept s 0 = 0 := by unfold Dk.kept; omega
  unfold Dk.fallen
  simp only
  rw [hk, List.take_zero]
  have ht : ∀ c : Ch, Dk.torn c (-1) = none := fun c => by unfold Dk.torn; rw [if_pos (.inr (.inl (by omega)))]
  split
  · rw [ht]; rfl
  · rfl
end Dl
/- Walks: the law DiskMoves. -/
set_option linter.unusedVariables false
set_option linter.unusedSimpArgs false
namespace Go.Proofs
open Go.Lv
namespace Jn
open Dk (Files Bs Ch Ev)
open Dl (DOp Small Kept doesD doesR)
variable {H : Heap}

theorem PlayedAt.kept {room : Int} {l : List DOp} {j : Nat} (h : PlayedAt H room l j) : Kept 100 (l.foldl doesD (newD room)) (l.foldl doesR (newD room)) := by
  have := kept_take h.okr h.small l.length
  rw [List.take_length] at this
  exact this.le (by have := h.len; omega)
theorem kept_reset {n : Int} {s r : Dk.Disk} (h : Kept n s r) (l : List Ev) (hl : l.length ≤ 40) : Kept n { s with plan := l, down := false } { Dr.plan r l with down := false } :=
  ⟨(h.live.planned l).reboot, h.calls, hl, Nat.le_trans (List.length_filter_le _ _) hl⟩
theorem moves_w (room : Int) (l : List DOp) (frm to b : Bs) (hl : l.length ≤ 140737488355328) (hbig : ∀ o ∈ l, Big o) (h1 : frm.length ≤ 140737488355328) (h2 : to.length ≤ 140737488355328) (h3 : b.length ≤ 140737488355328) :
    WF Try.prog cfg 3 [.i room, .sl (l.map opV), .str frm, .str to, .sl (b.map byteA)] H (fun v H' => v = .b true) := by
  have hm : ∀ d, cfg.muF 3 d = (false) := fun _ => rfl
  have hz : ∀ d, cfg.fzF 3 d = (false) := fun _ => rfl
  have ht : ∀ d, cfg.tkF 3 d = (false) := fun _ => rfl
  have hr_ : ∀ g, cfg.raw g = (g == 33 || g == 41) := fun _ => rfl
  refine rF_fn rfl rfl Try.func3 rfl ?_
  repeat' first | simp (disch := first | omega | assumption | decide) only [go_sem, hm, hz, ht, hr_, wdl, bind_some_, map_some_, oneD_fold] | refine ifP_in (fun _ => ?_) fun _ => ?_
  refine rF_use first22_w ?_
  rintro _ H1 ⟨rfl, rfl⟩
  repeat' first | simp (disch := first | omega | assumption | decide) only [go_sem, hm, hz, ht, hr_, wdl, bind_some_, map_some_, oneD_fold] | refine ifP_in (fun _ => ?_) fun _ => ?_
  refine rF_use (played_w room l hl hbig) ?_
  rintro _ H2 (rfl | ⟨j, rfl, hP⟩)
  · repeat' first | simp (disch := first | omega | assumption | decide) only [go_sem, hm, hz, ht, hr_, wdl, bind_some_, map_some_, oneD_fold] | refine ifP_in (fun _ => ?_) fun _ => ?_
    refine rF_use first22_w ?_
    rintro _ H3 ⟨rfl, rfl⟩
    repeat' first | simp (disch := first | omega | assumption | decide) only [go_sem, hm, hz, ht, hr_, wdl, bind_some_, map_some_, oneD_fold] | refine ifP_in (fun _ => ?_) fun _ => ?_
  by_cases b1 : 400 < frm.length
  · repeat' first | simp (disch := first | omega | assumption | decide) only [go_sem, hm, hz, ht, hr_, wdl, bind_some_, map_some_, oneD_fold] | refine ifP_in (fun _ => ?_) fun _ => ?_
    refine rF_use first22_w ?_
    rintro _ H3 ⟨rfl, rfl⟩
    repeat' first | simp (disch := first | omega | assumption | decide) only [go_sem, hm, hz, ht, hr_, wdl, bind_some_, map_some_, oneD_fold] | refine ifP_in (fun _ => ?_) fun _ => ?_
  by_cases b2 : 400 < to.length
  · repeat' first | simp (disch := first | omega | assumption | decide) only [go_sem, hm, hz, ht, hr_, wdl, bind_some_, map_some_, oneD_fold] | refine ifP_in (fun _ => ?_) fun _ => ?_
    refine rF_use first22_w ?_
    rintro _ H3 ⟨rfl, rfl⟩
    repeat' first | simp (disch := first | omega | assumption | decide) only [go_sem, hm, hz, ht, hr_, wdl, bind_some_, map_some_, oneD_fold] | refine ifP_in (fun _ => ?_) fun _ => ?_
  by_cases b3 : 3000 < b.length
  · repeat' first | simp (disch := first | omega | assumption | decide) only [go_sem, hm, hz, ht, hr_, wdl, bind_some_, map_some_, oneD_fold] | refine ifP_in (fun _ => ?_) fun _ => ?_
    refine rF_use first22_w ?_
    rintro _ H3 ⟨rfl, rfl⟩
    repeat' first | simp (disch := first | omega | assumption | decide) only [go_sem, hm, hz, ht, hr_, wdl, bind_some_, map_some_, oneD_fold] | refine ifP_in (fun _ => ?_) fun _ => ?_
  have hk0 := hP.kept
  obtain ⟨k, S, T, hp⟩ := hP.out
  have hk := kept_reset hk0 [] (by simp)
  generalize l.foldl doesD (newD room) = s0 at *
  generalize l.foldl doesR (newD room) = r0 at *
  repeat' first | simp (disch := first | omega | assumption | decide) only [go_sem, hm, hz, ht, hr_, wdl, bind_some_, map_some_, oneD_fold] | refine ifP_in (fun _ => ?_) fun _ => ?_
  refine rF_use (plan_w hp.hd [] (by simp) (x := .sl []) (.inr rfl)) ?_
  rintro _ H3 ⟨rfl, S3, hd3, _⟩
  repeat' first | simp (disch := first | omega | assumption | decide) only [go_sem, hm, hz, ht, hr_, wdl, bind_some_, map_some_, oneD_fold] | refine ifP_in (fun _ => ?_) fun _ => ?_
  refine rF_use (reboot_w hd3) ?_
  rintro _ H4 ⟨rfl, S4, hd4, _⟩
  have es : ({ ({ s0 with plan := [] } : Dk.Disk) with down := false } : Dk.Disk) = { s0 with plan := [], down := false } := rfl
  rw [es] at hd4
  have hsp : ({ s0 with plan := [], down := false } : Dk.Disk).plan = [] := rfl
  have hsd : ({ s0 with plan := [], down := false } : Dk.Disk).down = false := rfl
  generalize ({ s0 with plan := [], down := false } : Dk.Disk) = s at *
  generalize ({ Dr.plan r0 [] with down := false } : Dk.Disk) = r at *
  obtain ⟨l1, _, u1, _⟩ := Kept.nowLen hk (by omega)
  have hnod := hk.live.two.nowR.nod
  repeat' first | simp (disch := first | omega | assumption | decide) only [go_sem, hm, hz, ht, hr_, wdl, bind_some_, map_some_, oneD_fold] | refine ifP_in (fun _ => ?_) fun _ => ?_
  refine rF_use (peek_w hd4 u1 frm) ?_
  rintro _ H5 ⟨rfl, rfl⟩
  repeat' first | simp (disch := first | omega | assumption | decide) only [go_sem, hm, hz, ht, hr_, wdl, bind_some_, map_some_, oneD_fold] | refine ifP_in (fun _ => ?_) fun _ => ?_
  refine rF_use (rename_w hd4 (Kept.can hk (by omega)) frm to (by omega) (by omega)) ?_
  rintro _ H6 ⟨rfl, S6, hd6, _⟩
  have hk6 : Kept 101 (Dk.rename s frm to).1 (Dr.rename r frm to).1 := Dl.call_next hk (hk.live.rename _ _).1 (Dl.rrename_plan _ _ _)
  obtain ⟨l6, _, u6, _⟩ := Kept.nowLen hk6 (by omega)
  have hpl6 : (Dk.rename s frm to).1.plan = [] := by rw [(hk.live.rename frm to).1.plan]; exact hsp
  have hdn6 : (Dk.rename s frm to).1.down = false := Dl.rename_down hsp hsd frm to
  have hr0 := Dl.rename0 hsp hsd frm to
  generalize (Dk.rename s frm to).1 = s6 at *
  generalize (Dk.rename s frm to).2 = code at *
  rcases hr0 with ⟨rfl, hhas, hcase⟩ | ⟨hcode, hnow⟩
  · have hfacts : Dk.data s6.now to = Dk.data s.now frm ∧ Dk.has s6.now to = true ∧ Dk.has s6.now frm = decide (frm = to) := by
      rcases hcase with ⟨rfl, hnow⟩ | ⟨hne, hnow, hf0⟩
      · rw [hnow, hhas, decide_eq_true rfl]; exact ⟨rfl, rfl, rfl⟩
      · rw [hnow, decide_eq_false hne]
        exact Dl.moved hnod hne hf0
    obtain ⟨f1, f2, f3⟩ := hfacts
    repeat' first | simp (disch := first | omega | assumption | decide) only [go_sem, hm, hz, ht, hr_, wdl, bind_some_, map_some_, oneD_fold] | refine ifP_in (fun _ => ?_) fun _ => ?_
    refine rF_use (peek_w hd6 u6 to) ?_
    rintro _ H7 ⟨rfl, rfl⟩
    repeat' first | simp (disch := first | omega | assumption | decide) only [go_sem, hm, hz, ht, hr_, wdl, bind_some_, map_some_, oneD_fold] | refine ifP_in (fun _ => ?_) fun _ => ?_
    refine rF_use (peek_w hd6 u6 frm) ?_
    rintro _ H8 ⟨rfl, rfl⟩
    rw [f1, f2, f3, hhas]
    repeat' first | simp (disch := first | omega | assumption | decide) only [go_sem, hm, hz, ht, hr_, wdl, bind_some_, map_some_, oneD_fold] | refine ifP_in (fun _ => ?_) fun _ => ?_
    refine rF_use (lbytes_w (Dk.data s.now frm) (Dk.data s.now frm) (.inl rfl) (.inl rfl)) ?_
    rintro _ H9 ⟨rfl, rfl⟩
    rw [decide_eq_true (rfl : Dk.data s.now frm = Dk.data s.now frm)]
    repeat' first | simp (disch := first | omega | assumption | decide) only [go_sem, hm, hz, ht, hr_, bne_self_eq_false, wdl, bind_some_, map_some_, oneD_fold] | refine ifP_in (fun _ => ?_) fun _ => ?_
    refine rF_use (peek_w hd6 u6 to) ?_
    rintro _ H10 ⟨rfl, rfl⟩
    repeat' first | simp (disch := first | omega | assumption | decide) only [go_sem, hm, hz, ht, hr_, wdl, bind_some_, map_some_, oneD_fold] | refine ifP_in (fun _ => ?_) fun _ => ?_
    refine rF_use (append_w hd6 (Kept.can hk6 (by omega)) to b (by omega) (by omega)) ?_
    rintro _ H11 ⟨rfl, S11, hd11, _⟩
    have hk11 : Kept 102 (Dk.append s6 to b).1 _ := Dl.call_next hk6 (hk6.live.append _ _).1 (Dl.rappend_plan _ _ _)
    obtain ⟨l11, _, u11, _⟩ := Kept.nowLen hk11 (by omega)
    have ha0 := Dl.append0 hpl6 hdn6 to b
    have hdle := Dk.data_le s6.now to
    generalize (Dk.append s6 to b).1 = s11 at *
    generalize (Dk.append s6 to b).2 = code2 at *
    rcases ha0 with ⟨rfl, hnow2⟩ | ⟨hcode2, hnow2⟩
    · repeat' first | simp (disch := first | omega | assumption | decide) only [go_sem, hm, hz, ht, hr_, wdl, bind_some_, map_some_, oneD_fold] | refine ifP_in (fun _ => ?_) fun _ => ?_
      refine rF_use (peek_w hd11 u11 to) ?_
      rintro _ H12 ⟨rfl, rfl⟩
      rw [hnow2]
      obtain ⟨e1, e2⟩ := Dl.data_set s6.now to (Dk.data s6.now to ++ b)
      rw [e1, e2]
      repeat' first | simp (disch := first | omega | assumption | decide) only [go_sem, hm, hz, ht, hr_, wdl, bind_some_, map_some_, oneD_fold] | refine ifP_in (fun _ => ?_) fun _ => ?_
      refine rF_use first22_w ?_
      rintro _ H13 ⟨rfl, rfl⟩
      repeat' first | simp (disch := first | omega | assumption | decide) only [go_sem, hm, hz, ht, hr_, wdl, bind_some_, map_some_, oneD_fold] | refine ifP_in (fun _ => ?_) fun _ => ?_
      refine rF_use (lbytes_w (Dk.data s6.now to ++ b) (Dk.data s6.now to ++ b) (.inl rfl) (.inl rfl)) ?_
      rintro _ H14 ⟨rfl, rfl⟩
      rw [decide_eq_true (rfl : Dk.data s6.now to ++ b = Dk.data s6.now to ++ b)]
      repeat' first | simp (disch := first | omega | assumption | decide) only [go_sem, hm, hz, ht, hr_, wdl, bind_some_, map_some_, oneD_fold] | refine ifP_in (fun _ => ?_) fun _ => ?_
    · repeat' first | simp (disch := first | omega | assumption | decide) only [go_sem, hm, hz, ht, hr_, hcode2, wdl, bind_some_, map_some_, oneD_fold] | refine ifP_in (fun _ => ?_) fun _ => ?_
      refine rF_use (peek_w hd11 u11 to) ?_
      rintro _ H12 ⟨rfl, rfl⟩
      rw [hnow2]
      repeat' first | simp (disch := first | omega | assumption | decide) only [go_sem, hm, hz, ht, hr_, wdl, bind_some_, map_some_, oneD_fold] | refine ifP_in (fun _ => ?_) fun _ => ?_
      refine rF_use first22_w ?_
      rintro _ H13 ⟨rfl, rfl⟩
      repeat' first | simp (disch := first | omega | assumption | decide) only [go_sem, hm, hz, ht, hr_, wdl, bind_some_, map_some_, oneD_fold] | refine ifP_in (fun _ => ?_) fun _ => ?_
      refine rF_use (lbytes_w (Dk.data s6.now to) (Dk.data s6.now to) (.inl rfl) (.inl rfl)) ?_
      rintro _ H14 ⟨rfl, rfl⟩
      rw [decide_eq_true (rfl : Dk.data s6.now to = Dk.data s6.now to)]
      repeat' first | simp (disch := first | omega | assumption | decide) only [go_sem, hm, hz, ht, hr_, wdl, bind_some_, map_some_, oneD_fold] | refine ifP_in (fun _ => ?_) fun _ => ?_
  · repeat' first | simp (disch := first | omega | assumption | decide) only [go_sem, hm, hz, ht, hr_, hcode, wdl, bind_some_, map_some_, oneD_fold] | refine ifP_in (fun _ => ?_) fun _ => ?_
    refine rF_use (peek_w hd6 u6 to) ?_
    rintro _ H10 ⟨rfl, rfl⟩
    repeat' first | simp (disch := first | omega | assumption | decide) only [go_sem, hm, hz, ht, hr_, wdl, bind_some_, map_some_, oneD_fold] | refine ifP_in (fun _ => ?_) fun _ => ?_
    refine rF_use (append_w hd6 (Kept.can hk6 (by omega)) to b (by omega) (by omega)) ?_
    rintro _ H11 ⟨rfl, S11, hd11, _⟩
    have hk11 : Kept 102 (Dk.append s6 to b).1 _ := Dl.call_next hk6 (hk6.live.append _ _).1 (Dl.rappend_plan _ _ _)
    obtain ⟨l11, _, u11, _⟩ := Kept.nowLen hk11 (by omega)
    have ha0 := Dl.append0 hpl6 hdn6 to b
    have hdle := Dk.data_le s6.now to
    generalize (Dk.append s6 to b).1 = s11 at *
    generalize (Dk.append s6 to b).2 = code2 at *
    rcases ha0 with ⟨rfl, hnow2⟩ | ⟨hcode2, hnow2⟩
    · repeat' first | simp (disch := first | omega | assumption | decide) only [go_sem, hm, hz, ht, hr_, wdl, bind_some_, map_some_, oneD_fold] | refine ifP_in (fun _ => ?_) fun _ => ?_
      refine rF_use (peek_w hd11 u11 to) ?_
      rintro _ H12 ⟨rfl, rfl⟩
      rw [hnow2]
      obtain ⟨e1, e2⟩ := Dl.data_set s6.now to (Dk.data s6.now to ++ b)
      rw [e1, e2]
      repeat' first | simp (disch := first | omega | assumption | decide) only [go_sem, hm, hz, ht, hr_, wdl, bind_some_, map_some_, oneD_fold] | refine ifP_in (fun _ => ?_) fun _ => ?_
      refine rF_use first22_w ?_
      rintro _ H13 ⟨rfl, rfl⟩
      repeat' first | simp (disch := first | omega | assumption | decide) only [go_sem, hm, hz, ht, hr_, wdl, bind_some_, map_some_, oneD_fold] | refine ifP_in (fun _ => ?_) fun _ => ?_
      refine rF_use (lbytes_w (Dk.data s6.now to ++ b) (Dk.data s6.now to ++ b) (.inl rfl) (.inl rfl)) ?_
      rintro _ H14 ⟨rfl, rfl⟩
      rw [decide_eq_true (rfl : Dk.data s6.now to ++ b = Dk.data s6.now to ++ b)]
      repeat' first | simp (disch := first | omega | assumption | decide) only [go_sem, hm, hz, ht, hr_, wdl, bind_some_, map_some_, oneD_fold] | refine ifP_in (fun _ => ?_) fun _ => ?_
    · repeat' first | simp (disch := first | omega | assumption | decide) only [go_sem, hm, hz, ht, hr_, hcode2, wdl, bind_some_, map_some_, oneD_fold] | refine ifP_in (fun _ => ?_) fun _ => ?_
      refine rF_use (peek_w hd11 u11 to) ?_
      rintro _ H12 ⟨rfl, rfl⟩
      rw [hnow2]
      repeat' first | simp (disch := first | omega | assumption | decide) only [go_sem, hm, hz, ht, hr_, wdl, bind_some_, map_some_, oneD_fold] | refine ifP_in (fun _ => ?_) fun _ => ?_
      refine rF_use first22_w ?_
      rintro _ H13 ⟨rfl, rfl⟩
      repeat' first | simp (disch := first | omega | assumption | decide) only [go_sem, hm, hz, ht, hr_, wdl, bind_some_, map_some_, oneD_fold] | refine ifP_in (fun _ => ?_) fun _ => ?_
      refine rF_use (lbytes_w (Dk.data s6.now to) (Dk.data s6.now to) (.inl rfl) (.inl rfl)) ?_
      rintro _ H14 ⟨rfl, rfl⟩
      rw [decide_eq_true (rfl : Dk.data s6.now to = Dk.data s6.now to)]
      repeat' first | simp (disch := first | omega | assumption | decide) only [go_sem, hm, hz, ht, hr_, wdl, bind_some_, map_some_, oneD_fold] | refine ifP_in (fun _ => ?_) fun _ => ?_
theorem moves_all (room : Int) (l : List DOp) (frm to b : Bs) (_h0 : (Lit.int .i64 room).wf = true) (hl : l.length ≤ 140737488355328) (hbig : ∀ o ∈ l, Big o) (h1 : frm.length ≤ 140737488355328) (h2 : to.length ≤ 140737488355328) (h3 : b.length ≤ 140737488355328) :
    WF Try.prog cfg 3 [.i room, .sl (l.map opV), .str frm, .str to, .sl (b.map byteA)] H (fun v H' => v = .b true) := moves_w room l frm to b hl hbig h1 h2 h3
end Jn
end Go.Proofs
/- Walks: the law DiskRoom. -/
set_option linter.unusedVariables false
set_option linter.unusedSimpArgs false
namespace Go.Proofs
open Go.Lv
namespace Jn
open Dk (Files Bs Ch Ev)
open Dl (DOp Small Kept doesD doesR)
variable {H : Heap}

theorem DiskAt.step {H H1 : Heap} {j : Nat} {S S1 S2 : List Nat} {s : Dk.Disk} (h : DiskAt H j S2 s) (hs : Step H S H1 S1) (hd : ∀ x ∈ S2, x ∉ S) : DiskAt H1 j S2 s := h.same fun x hx => hs.same x (h.lt x hx) (hd x hx)
def sumN (f : Files) (p : List Bs) : Nat := (p.map fun k => (Dk.data f k).length).sum
theorem sumN_names {f : Files} (h : Dr.Nod f) : sumN f (dnames f) = Dk.used f := by
  unfold sumN Dk.used
  have hp : ((dnames f).map fun k => (Dk.data f k).length).Perm ((f.map (·.1)).map fun k => (Dk.data f k).length) := (List.mergeSort_perm _ _).map _
  rw [hp.sum_nat, List.map_map, ← Dl.sum_data h]
  rfl
theorem sumN_take (f : Files) (p : List Bs) (i : Nat) : sumN f (p.take i) ≤ sumN f p := by
  have : sumN f p = sumN f (p.take i) + sumN f (p.drop i) := by
    unfold sumN
    rw [← List.sum_append, ← List.map_append, List.take_append_drop]
  omega
theorem sumN_succ {f : Files} {p : List Bs} {i : Nat} (hi : i < p.length) : sumN f (p.take (i + 1)) = sumN f (p.take i) + (Dk.data f p[i]).length := by
  unfold sumN
  rw [List.take_succ_eq_append_getElem hi, List.map_append, List.sum_append]
  simp
def lessOf (room : Int) (l : List DOp) : Int := if (l.any fun o => decide (o.kind = 10)) = true then 1073741824 else room
theorem lessOf_succ {room : Int} {l : List DOp} {i : Nat} (hi : i < l.length) : lessOf room (l.take (i + 1)) = if l[i].kind = 10 then 1073741824 else lessOf room (l.take i) := by
  unfold lessOf
  rw [List.take_succ_eq_append_getElem hi, List.any_append]
  by_cases h : l[i].kind = 10
  · rw [if_pos (by simp [h]), if_pos h]
  · rw [if_neg h]; simp [h]
theorem room_w (room : Int) (l : List DOp) (name b : Bs) (kind : Int) (hl : l.length ≤ 140737488355328) (hbig : ∀ o ∈ l, Big o) (h1 : name.length ≤ 140737488355328) (h3 : b.length ≤ 140737488355328) :
    WF Try.prog cfg 4 [.i room, .sl (l.map opV), .str name, .sl (b.map byteA), .i kind] H (fun v H' => v = .b true) := by
  have hm : ∀ d, cfg.muF 4 d = (false) := fun _ => rfl
  have hz : ∀ d, cfg.fzF 4 d = (false) := fun _ => rfl
  have ht : ∀ d, cfg.tkF 4 d = (false) := fun _ => rfl
  have hr_ : ∀ g, cfg.raw g = (g == 33 || g == 41) := fun _ => rfl
  refine rF_fn rfl rfl Try.func4 rfl ?_
  repeat' first | simp (disch := first | omega | assumption | decide) only [go_sem, hm, hz, ht, hr_, wdl, bind_some_, map_some_, oneD_fold] | refine ifP_in (fun _ => ?_) fun _ => ?_
  refine rF_use first22_w ?_
  rintro _ H1 ⟨rfl, rfl⟩
  repeat' first | simp (disch := first | omega | assumption | decide) only [go_sem, hm, hz, ht, hr_, wdl, bind_some_, map_some_, oneD_fold] | refine ifP_in (fun _ => ?_) fun _ => ?_
  refine rF_use (played_w room l hl hbig) ?_
  rintro _ H2 (rfl | ⟨j, rfl, hP⟩)
  · repeat' first | simp (disch := first | omega | assumption | decide) only [go_sem, hm, hz, ht, hr_, wdl, bind_some_, map_some_, oneD_fold] | refine ifP_in (fun _ => ?_) fun _ => ?_
    refine rF_use first22_w ?_
    rintro _ H3 ⟨rfl, rfl⟩
    repeat' first | simp (disch := first | omega | assumption | decide) only [go_sem, hm, hz, ht, hr_, wdl, bind_some_, map_some_, oneD_fold] | refine ifP_in (fun _ => ?_) fun _ => ?_
  by_cases b1 : 400 < name.length
  · repeat' first | simp (disch := first | omega | assumption | decide) only [go_sem, hm, hz, ht, hr_, wdl, bind_some_, map_some_, oneD_fold] | refine ifP_in (fun _ => ?_) fun _ => ?_
    refine rF_use first22_w ?_
    rintro _ H3 ⟨rfl, rfl⟩
    repeat' first | simp (disch := first | omega | assumption | decide) only [go_sem, hm, hz, ht, hr_, wdl, bind_some_, map_some_, oneD_fold] | refine ifP_in (fun _ => ?_) fun _ => ?_
  by_cases b3 : 3000 < b.length
  · repeat' first | simp (disch := first | omega | assumption | decide) only [go_sem, hm, hz, ht, hr_, wdl, bind_some_, map_some_, oneD_fold] | refine ifP_in (fun _ => ?_) fun _ => ?_
    refine rF_use first22_w ?_
    rintro _ H3 ⟨rfl, rfl⟩
    repeat' first | simp (disch := first | omega | assumption | decide) only [go_sem, hm, hz, ht, hr_, wdl, bind_some_, map_some_, oneD_fold] | refine ifP_in (fun _ => ?_) fun _ => ?_
  have hk0 := hP.kept
  have hokr := hP.okr
  have hlen := hP.len
  have hunder : (Dk.used (l.foldl doesD (newD room)).now : Int) ≤ max (lessOf room l) 0 := by
    obtain ⟨_, _, u1, _⟩ := Kept.nowLen hk0 (by omega)
    unfold lessOf
    by_cases ha : (l.any fun o => decide (o.kind = 10)) = true
    · rw [if_pos ha]; omega
    · rw [if_neg ha]
      have hne : ∀ o ∈ l, o.kind ≠ 10 := fun o ho h10 => ha (List.any_eq_true.2 ⟨o, ho, by simpa using h10⟩)
      have hx : (Dk.used (l.foldl doesD (newD room)).now : Int) ≤ room := (Dl.Under.fold l (Dl.Under.new room hokr.1) (Dl.Kept.new room hokr) hP.small hne).now hk0.live.two.ok
      omega
  obtain ⟨k, S, T, hp⟩ := hP.out
  generalize l.foldl doesD (newD room) = s at *
  generalize l.foldl doesR (newD room) = r at *
  obtain ⟨l1, _, u1, _⟩ := Kept.nowLen hk0 (by omega)
  have hnod := hk0.live.two.nowR.nod
  have hsum := sumN_names hnod
  have hdl : (dnames s.now).length = s.now.length := by unfold dnames; rw [List.length_mergeSort, List.length_map]
  have hd := hp.hd
  repeat' first | simp (disch := first | omega | assumption | decide) only [go_sem, hm, hz, ht, hr_, wdl, bind_some_, map_some_, oneD_fold] | refine ifP_in (fun _ => ?_) fun _ => ?_
  refine rF_use (names_w hd l1) ?_
  rintro _ H3 ⟨rfl, rfl⟩
  repeat' first | simp (disch := first | omega | assumption | decide) only [go_sem, hm, hz, ht, hr_, wdl, bind_some_, map_some_, oneD_fold] | refine ifP_in (fun _ => ?_) fun _ => ?_
  generalize hpp : dnames s.now = p at *
  refine rL_loop (σ := Nat) (fun i e K => K = H3 ∧ e 0 = .i room ∧ e 1 = .sl (l.map opV) ∧ e 2 = .str name ∧ e 3 = .sl (b.map byteA) ∧ e 4 = .i kind ∧ e 11 = .ptr j 0 ∧ e 12 = .sl (p.map AV.str) ∧ e 13 = .i (sumN s.now (p.take i)) ∧ e 14 = .i i ∧ i ≤ p.length) (fun i => p.length - i) 0 ?_ ?_
  · refine ⟨rfl, ?_, ?_, ?_, ?_, ?_, ?_, ?_, ?_, ?_, by omega⟩
    all_goals first | (simp (disch := first | assumption | omega) only [go_sem]; done) | (simp (disch := first | assumption | omega) only [go_sem]; rfl)
  · rintro i e K ⟨hK, g0, g1, g2, g3, g4, g11, g12, g13, g14, i1⟩
    have hK := hK.symm
    subst hK
    by_cases hil : i < p.length
    · have hix := ix_at' hil
      have hs1 := sumN_succ (f := s.now) hil
      have hs2 := sumN_take s.now p (i + 1)
      generalize p[i] = x at *
      repeat' first | simp (disch := first | omega | assumption | decide) only [go_sem, hm, hz, ht, hr_, g0, g1, g2, g3, g4, g11, g12, g13, g14, hix, cells_str, wdl, bind_some_, map_some_, oneD_fold] | refine ifP_in (fun _ => ?_) fun _ => ?_
      refine rF_use (peek_w hd u1 x) ?_
      rintro _ K1 ⟨rfl, rfl⟩
      repeat' first | simp (disch := first | omega | assumption | decide) only [go_sem, hm, hz, ht, hr_, g0, g1, g2, g3, g4, g11, g12, g13, g14, wdl, bind_some_, map_some_, oneD_fold] | refine ifP_in (fun _ => ?_) fun _ => ?_
      exact ⟨i + 1, ⟨by rw [hs1]; push_cast; rfl, rfl, by omega⟩, by omega⟩
    · have : i = p.length := by omega
      subst this
      rw [List.take_length, hsum] at g13
      repeat' first | simp (disch := first | omega | assumption | decide) only [go_sem, hm, hz, ht, hr_, g0, g1, g2, g3, g4, g11, g12, g13, g14, wdl, bind_some_, map_some_, oneD_fold] | refine ifP_in (fun _ => ?_) fun _ => ?_
      refine rL_loop (σ := Nat) (fun i e K2 => K2 = H3 ∧ e 1 = .sl (l.map opV) ∧ e 2 = .str name ∧ e 3 = .sl (b.map byteA) ∧ e 4 = .i kind ∧ e 11 = .ptr j 0 ∧ e 13 = .i (Dk.used s.now) ∧ e 17 = .i (lessOf room (l.take i)) ∧ e 18 = .i i ∧ i ≤ l.length) (fun i => l.length - i) 0 ?_ ?_
      · refine ⟨rfl, ?_, ?_, ?_, ?_, ?_, ?_, ?_, ?_, by omega⟩
        all_goals first | (simp (disch := first | assumption | omega) only [go_sem, g0, g1, g2, g3, g4, g11, g13]; done) | (simp (disch := first | assumption | omega) only [go_sem, g0, g1, g2, g3, g4, g11, g13]; rfl)
      · clear g0 g1 g2 g3 g4 g11 g12 g13 g14
        rintro i e K2 ⟨hK2, g1, g2, g3, g4, g11, g13, g17, g18, i1⟩
        have hK2 := hK2.symm
        subst hK2
        by_cases hil : i < l.length
        · have hix := ix_at' hil
          have hls := lessOf_succ (room := room) hil
          generalize l[i] = o at *
          by_cases h10 : o.kind = 10
          · rw [if_pos h10] at hls
            repeat' first | simp (disch := first | omega | assumption | decide) only [go_sem, hm, hz, ht, hr_, g1, g2, g3, g4, g11, g13, g17, g18, hix, cells_opV, wdl, bind_some_, map_some_, oneD_fold] | refine ifP_in (fun _ => ?_) fun _ => ?_
            exact ⟨i + 1, ⟨by rw [hls], rfl, by omega⟩, by omega⟩
          · rw [if_neg h10] at hls
            repeat' first | simp (disch := first | omega | assumption | decide) only [go_sem, hm, hz, ht, hr_, g1, g2, g3, g4, g11, g13, g17, g18, hix, cells_opV, wdl, bind_some_, map_some_, oneD_fold] | refine ifP_in (fun _ => ?_) fun _ => ?_
            exact ⟨i + 1, ⟨by rw [hls], rfl, by omega⟩, by omega⟩
        · have : i = l.length := by omega
          subst this
          rw [List.take_length] at g17
          generalize lessOf room l = less at *
          repeat' first | simp (disch := first | omega | assumption | decide) only [go_sem, hm, hz, ht, hr_, g1, g2, g3, g4, g11, g13, g17, g18, wdl, bind_some_, map_some_, oneD_fold] | refine ifP_in (fun _ => ?_) fun _ => ?_
          refine rF_use (used_w hd u1) ?_
          rintro _ K3 ⟨rfl, rfl⟩
          have hne : ¬ ((Dk.used s.now : Int) ≠ Dk.used s.now) := by simp
          repeat' first | simp (disch := first | omega | assumption | decide) only [go_sem, hm, hz, ht, hr_, g1, g2, g3, g4, g11, g13, g17, g18, wdl, bind_some_, map_some_, oneD_fold] | refine ifP_in (fun _ => ?_) fun _ => ?_
          refine rF_use (reboot_w hd) ?_
          rintro _ H4 ⟨rfl, S4, hd4, _⟩
          repeat' first | simp (disch := first | omega | assumption | decide) only [go_sem, hm, hz, ht, hr_, g1, g2, g3, g4, g11, g13, g17, g18, wdl, bind_some_, map_some_, oneD_fold] | refine ifP_in (fun _ => ?_) fun _ => ?_
          refine rF_use (calls_w hd4) ?_
          rintro _ H5 ⟨rfl, rfl⟩
          have hcl := hk0.calls
          have hc0 := hk0.live.two.ok.calls
          have hagg : AV.agg [AV.i (s.calls + 1), AV.i kind, AV.i 0, AV.i 0] = evA ⟨s.calls + 1, kind, 0, 0⟩ := rfl
          have hck := cellsOK_of (f := evA) (n := 4) ⟨s.calls + 1, kind, 0, 0⟩
          have hlst : AV.sl [evA ⟨s.calls + 1, kind, 0, 0⟩] = .sl ([(⟨s.calls + 1, kind, 0, 0⟩ : Ev)].map evA) := rfl
          repeat' first | simp (disch := first | omega | assumption | decide) only [go_sem, hm, hz, ht, hr_, g1, g2, g3, g4, g11, g13, g17, g18, hagg, hck, wdl, bind_some_, map_some_, oneD_fold] | refine ifP_in (fun _ => ?_) fun _ => ?_
          refine rF_use (plan_w hd4 [⟨s.calls + 1, kind, 0, 0⟩] (by simp) (x := .sl ([(⟨s.calls + 1, kind, 0, 0⟩ : Ev)].map evA)) (.inr rfl)) ?_
          rintro _ H6 ⟨rfl, S6, hd6, _⟩
          have hk2 := kept_reset hk0 [⟨s.calls + 1, kind, 0, 0⟩] (by simp)
          have es : ({ ({ s with down := false } : Dk.Disk) with plan := [⟨s.calls + 1, kind, 0, 0⟩] } : Dk.Disk) = { s with plan := [⟨s.calls + 1, kind, 0, 0⟩], down := false } := rfl
          rw [es] at hd6
          have hsp : ({ s with plan := [⟨s.calls + 1, kind, 0, 0⟩], down := false } : Dk.Disk).plan = [⟨({ s with plan := [⟨s.calls + 1, kind, 0, 0⟩], down := false } : Dk.Disk).calls + 1, kind, 0, 0⟩] := rfl
          have hsd : ({ s with plan := [⟨s.calls + 1, kind, 0, 0⟩], down := false } : Dk.Disk).down = false := rfl
          generalize ({ s with plan := [⟨s.calls + 1, kind, 0, 0⟩], down := false } : Dk.Disk) = s2 at *
          generalize ({ Dr.plan r [⟨s.calls + 1, kind, 0, 0⟩] with down := false } : Dk.Disk) = r2 at *
          have hpd := hk2.live.two.ok.pend
          have hcl2 := hk2.calls
          have hpl2 := hk2.plan
          obtain ⟨l2, _, u2, _⟩ := Kept.nowLen hk2 (by omega)
          repeat' first | simp (disch := first | omega | assumption | decide) only [go_sem, hm, hz, ht, hr_, g1, g2, g3, g4, g11, g13, g17, g18, wdl, bind_some_, map_some_, oneD_fold] | refine ifP_in (fun _ => ?_) fun _ => ?_
          refine rF_use (copy_w hd6 (by omega) (by omega)) ?_
          rintro _ H7 ⟨⟨j2, rfl, S2, hw7, hS2⟩, hp7⟩
          have hlt6 := hd6.lt
          have hd7 : DiskAt H7 j S6 s2 := hd6.grew fun x hx => pre_same hp7 hx
          repeat' first | simp (disch := first | omega | assumption | decide) only [go_sem, hm, hz, ht, hr_, g1, g2, g3, g4, g11, g13, g17, g18, wdl, bind_some_, map_some_, oneD_fold] | refine ifP_in (fun _ => ?_) fun _ => ?_
          refine rF_use (write_w hd7 (Kept.can hk2 (by omega)) name b (by omega) (by omega)) ?_
          rintro _ H8 ⟨rfl, S8, hd8, hs8⟩
          have hw8 : DiskAt H8 j2 S2 s2 := hw7.step hs8 fun x hx hx6 => by have := hlt6 x hx6; have := hS2 x hx; omega
          have hk8 : Kept 101 (Dk.write s2 name b).1 (Dr.write r2 name b).1 := Dl.call_next hk2 (hk2.live.write _ _).1 (Dl.rwrite_plan _ _ _)
          obtain ⟨l8, _, u8, _⟩ := Kept.nowLen hk8 (by omega)
          obtain ⟨w1, w2, w3, w4, w5⟩ := Dl.write1 hsp hsd name b
          generalize (Dk.write s2 name b).1 = s3 at *
          generalize (Dk.write s2 name b).2 = code at *
          repeat' first | simp (disch := first | omega | assumption | decide) only [go_sem, hm, hz, ht, hr_, g1, g2, g3, g4, g11, g13, g17, g18, wdl, bind_some_, map_some_, oneD_fold] | refine ifP_in (fun _ => ?_) fun _ => ?_
          refine rF_use (calls_w hd8) ?_
          rintro _ H9 ⟨rfl, rfl⟩
          repeat' first | simp (disch := first | omega | assumption | decide) only [go_sem, hm, hz, ht, hr_, g1, g2, g3, g4, g11, g13, g17, g18, wdl, bind_some_, map_some_, oneD_fold] | refine ifP_in (fun _ => ?_) fun _ => ?_
          refine rF_use (calls_w hw8) ?_
          rintro _ H10 ⟨rfl, rfl⟩
          have hc0' := hk2.live.two.ok.calls
          rw [w1]
          have hnc : ¬ (s2.calls + 1 ≠ s2.calls + 1) := by simp
          by_cases hcd : code = 0
          · rw [hcd]
            have hk1 : kind ≠ 1 := fun h => by have := w5 h; omega
            have hk2' : kind ≠ 2 := fun h => w4 h hcd
            have hk3 : kind ≠ 3 := fun h => by have := w3 h; omega
            repeat' first | simp (disch := first | omega | assumption | decide) only [go_sem, hm, hz, ht, hr_, g1, g2, g3, g4, g11, g13, g17, g18, wdl, bind_some_, map_some_, oneD_fold] | refine ifP_in (fun _ => ?_) fun _ => ?_
            refine rF_use first22_w ?_
            rintro _ H11 ⟨rfl, rfl⟩
            repeat' first | simp (disch := first | omega | assumption | decide) only [go_sem, hm, hz, ht, hr_, g1, g2, g3, g4, g11, g13, g17, g18, wdl, bind_some_, map_some_, oneD_fold] | refine ifP_in (fun _ => ?_) fun _ => ?_
          · repeat' first | simp (disch := first | omega | assumption | decide) only [go_sem, hm, hz, ht, hr_, g1, g2, g3, g4, g11, g13, g17, g18, wdl, bind_some_, map_some_, oneD_fold] | refine ifP_in (fun _ => ?_) fun _ => ?_
            refine rF_use (alike_w hd8 hw8 l8 u8 l2 u2) ?_
            rintro _ H11 ⟨⟨t, rfl, ht1⟩, rfl⟩
            by_cases hk1 : kind = 1
            · have hcode := w5 hk1
              rw [hk1] at g4
              rw [hcode]
              cases t
              all_goals
                repeat' first | simp (disch := first | omega | assumption | decide) only [go_sem, hm, hz, ht, hr_, g1, g2, g3, g4, g11, g13, g17, g18, wdl, bind_some_, map_some_, oneD_fold] | refine ifP_in (fun _ => ?_) fun _ => ?_
                refine rF_use first22_w ?_
                rintro _ H12 ⟨rfl, rfl⟩
                repeat' first | simp (disch := first | omega | assumption | decide) only [go_sem, hm, hz, ht, hr_, g1, g2, g3, g4, g11, g13, g17, g18, wdl, bind_some_, map_some_, oneD_fold] | refine ifP_in (fun _ => ?_) fun _ => ?_
            · have ht2 := ht1 (w2 hk1 hcd)
              subst ht2
              by_cases hk3 : kind = 3
              · have hcode := w3 hk3
                rw [hk3] at g4
                rw [hcode]
                repeat' first | simp (disch := first | omega | assumption | decide) only [go_sem, hm, hz, ht, hr_, g1, g2, g3, g4, g11, g13, g17, g18, wdl, bind_some_, map_some_, oneD_fold] | refine ifP_in (fun _ => ?_) fun _ => ?_
                refine rF_use first22_w ?_
                rintro _ H12 ⟨rfl, rfl⟩
                repeat' first | simp (disch := first | omega | assumption | decide) only [go_sem, hm, hz, ht, hr_, g1, g2, g3, g4, g11, g13, g17, g18, wdl, bind_some_, map_some_, oneD_fold] | refine ifP_in (fun _ => ?_) fun _ => ?_
              · by_cases hk2' : kind = 2
                · rw [hk2'] at g4
                  repeat' first | simp (disch := first | omega | assumption | decide) only [go_sem, hm, hz, ht, hr_, g1, g2, g3, g4, g11, g13, g17, g18, wdl, bind_some_, map_some_, oneD_fold] | refine ifP_in (fun _ => ?_) fun _ => ?_
                  refine rF_use first22_w ?_
                  rintro _ H12 ⟨rfl, rfl⟩
                  repeat' first | simp (disch := first | omega | assumption | decide) only [go_sem, hm, hz, ht, hr_, g1, g2, g3, g4, g11, g13, g17, g18, wdl, bind_some_, map_some_, oneD_fold] | refine ifP_in (fun _ => ?_) fun _ => ?_
                · repeat' first | simp (disch := first | omega | assumption | decide) only [go_sem, hm, hz, ht, hr_, g1, g2, g3, g4, g11, g13, g17, g18, wdl, bind_some_, map_some_, oneD_fold] | refine ifP_in (fun _ => ?_) fun _ => ?_
                  refine rF_use first22_w ?_
                  rintro _ H12 ⟨rfl, rfl⟩
                  repeat' first | simp (disch := first | omega | assumption | decide) only [go_sem, hm, hz, ht, hr_, g1, g2, g3, g4, g11, g13, g17, g18, wdl, bind_some_, map_some_, oneD_fold] | refine ifP_in (fun _ => ?_) fun _ => ?_
theorem room_all (room : Int) (l : List DOp) (name b : Bs) (kind : Int) (_h0 : (Lit.int .i64 room).wf = true) (hl : l.length ≤ 140737488355328) (hbig : ∀ o ∈ l, Big o) (h1 : name.length ≤ 140737488355328) (h3 : b.length ≤ 140737488355328) (_h4 : (Lit.int .i64 kind).wf = true) :
    WF Try.prog cfg 4 [.i room, .sl (l.map opV), .str name, .sl (b.map byteA), .i kind] H (fun v H' => v = .b true) := room_w room l name b kind hl hbig h1 h3
end Jn
end Go.Proofs
/- Walks: the law DiskKeeps. -/
set_option linter.unusedVariables false
set_option linter.unusedSimpArgs false
namespace Go.Proofs
open Go.Lv
namespace Jn
open Dk (Files Bs Ch Ev)
open Dl (DOp Small Kept doesD doesR)
variable {H : Heap}

theorem two_strs (a b : Bs) : AV.sl [AV.str a, AV.str b] = .sl ([a, b].map AV.str) := rfl
theorem mem_dnames {f : Files} {n : Bs} (h : Dr.Nod f) (hm : n ∈ dnames f) : Dk.has f n = true := by
  have h1 : n ∈ f.map (·.1) := (List.mergeSort_perm _ _).mem_iff.1 hm
  obtain ⟨p, hp, rfl⟩ := List.mem_map.1 h1
  unfold Dk.has
  rw [(Dr.get_mem (n := p.1) (v := p.2) h).2 hp]
  rfl
theorem kept_sync {n : Int} {s r : Dk.Disk} (h : Kept n s r) : Kept (n + 1) (Dk.sync s).1 (Dr.sync r).1 := Dl.call_next h h.live.sync.1 (Dl.rsync_plan _)
theorem kept_crash {n : Int} {s r : Dk.Disk} (h : Kept n s r) (k t : Int) : Kept n (Dk.crash s k t) (Dr.crash r k t) := by
  obtain ⟨h1, h2, h3⟩ := h.live.crash k t
  exact ⟨h1, by rw [h2]; exact h.calls, by rw [h3]; exact h.plan, by rw [(Dr.crash_calls _ _ _).2]; exact h.rplan⟩
theorem crash_up {s : Dk.Disk} (h : s.down = false) (k t : Int) : Dk.crash s k t = { s with now := Dk.fallen s k t, dur := Dk.fallen s k t, pend := [], down := true } := by unfold Dk.crash; rw [if_neg (by simp [h])]
theorem keeps_w (room : Int) (l more : List DOp) (keep torn : Int) (hl : l.length ≤ 140737488355328) (hbig : ∀ o ∈ l, Big o) (hl2 : more.length ≤ 140737488355328) (hbig2 : ∀ o ∈ more, Big o) :
    WF Try.prog cfg 5 [.i room, .sl (l.map opV), .sl (more.map opV), .i keep, .i torn] H (fun v H' => v = .b true) := by
  have hm : ∀ d, cfg.muF 5 d = (false) := fun _ => rfl
  have hz : ∀ d, cfg.fzF 5 d = (false) := fun _ => rfl
  have ht : ∀ d, cfg.tkF 5 d = (false) := fun _ => rfl
  have hr_ : ∀ g, cfg.raw g = (g == 33 || g == 41) := fun _ => rfl
  refine rF_fn rfl rfl Try.func5 rfl ?_
  repeat' first | simp (disch := first | omega | assumption | decide) only [go_sem, hm, hz, ht, hr_, wdl, bind_some_, map_some_, oneD_fold] | refine ifP_in (fun _ => ?_) fun _ => ?_
  refine rF_use first22_w ?_
  rintro _ H1 ⟨rfl, rfl⟩
  repeat' first | simp (disch := first | omega | assumption | decide) only [go_sem, hm, hz, ht, hr_, wdl, bind_some_, map_some_, oneD_fold] | refine ifP_in (fun _ => ?_) fun _ => ?_
  refine rF_use (played_w room l hl hbig) ?_
  rintro _ H2 (rfl | ⟨j, rfl, hP⟩)
  · repeat' first | simp (disch := first | omega | assumption | decide) only [go_sem, hm, hz, ht, hr_, wdl, bind_some_, map_some_, oneD_fold] | refine ifP_in (fun _ => ?_) fun _ => ?_
    refine rF_use first22_w ?_
    rintro _ H3 ⟨rfl, rfl⟩
    repeat' first | simp (disch := first | omega | assumption | decide) only [go_sem, hm, hz, ht, hr_, wdl, bind_some_, map_some_, oneD_fold] | refine ifP_in (fun _ => ?_) fun _ => ?_
  repeat' first | simp (disch := first | omega | assumption | decide) only [go_sem, hm, hz, ht, hr_, wdl, bind_some_, map_some_, oneD_fold] | refine ifP_in (fun _ => ?_) fun _ => ?_
  refine rF_use (few_w more hl2 hbig2) ?_
  rintro _ H3 ⟨⟨t, rfl, ht1⟩, rfl⟩
  cases t with
  | false =>
    repeat' first | simp (disch := first | omega | assumption | decide) only [go_sem, hm, hz, ht, hr_, wdl, bind_some_, map_some_, oneD_fold] | refine ifP_in (fun _ => ?_) fun _ => ?_
    refine rF_use first22_w ?_
    rintro _ H4 ⟨rfl, rfl⟩
    repeat' first | simp (disch := first | omega | assumption | decide) only [go_sem, hm, hz, ht, hr_, wdl, bind_some_, map_some_, oneD_fold] | refine ifP_in (fun _ => ?_) fun _ => ?_
  | true =>
    obtain ⟨hlen, hsm⟩ := ht1 rfl
    have hk0 := hP.kept
    obtain ⟨k0, S0, T0, hp0⟩ := hP.out
    have hk := kept_reset hk0 [] (by simp)
    generalize l.foldl doesD (newD room) = s0 at *
    generalize l.foldl doesR (newD room) = r0 at *
    repeat' first | simp (disch := first | omega | assumption | decide) only [go_sem, hm, hz, ht, hr_, wdl, bind_some_, map_some_, oneD_fold] | refine ifP_in (fun _ => ?_) fun _ => ?_
    refine rF_use (plan_w hp0.hd [] (by simp) (x := .sl []) (.inr rfl)) ?_
    rintro _ H4 ⟨rfl, S4, hd4, _⟩
    repeat' first | simp (disch := first | omega | assumption | decide) only [go_sem, hm, hz, ht, hr_, wdl, bind_some_, map_some_, oneD_fold] | refine ifP_in (fun _ => ?_) fun _ => ?_
    refine rF_use (reboot_w hd4) ?_
    rintro _ H5 ⟨rfl, S5, hd5, _⟩
    have es : ({ ({ s0 with plan := [] } : Dk.Disk) with down := false } : Dk.Disk) = { s0 with plan := [], down := false } := rfl
    rw [es] at hd5
    have hsp : ({ s0 with plan := [], down := false } : Dk.Disk).plan = [] := rfl
    have hsd : ({ s0 with plan := [], down := false } : Dk.Disk).down = false := rfl
    generalize ({ s0 with plan := [], down := false } : Dk.Disk) = s1 at *
    generalize ({ Dr.plan r0 [] with down := false } : Dk.Disk) = r1 at *
    repeat' first | simp (disch := first | omega | assumption | decide) only [go_sem, hm, hz, ht, hr_, wdl, bind_some_, map_some_, oneD_fold] | refine ifP_in (fun _ => ?_) fun _ => ?_
    refine rF_use (sync_w hd5 (Kept.can hk (by omega))) ?_
    rintro _ H6 ⟨rfl, S6, hd6, _⟩
    have hk6 := kept_sync hk
    rw [Dl.sync0 hsp hsd] at hd6 hk6 ⊢
    simp only at hd6 hk6 ⊢
    have hto : Dl.Touch [] s1.now { s1 with calls := s1.calls + 1, dur := s1.now, pend := [] } := ⟨rfl, by simp, hsp, hsd⟩
    have hwn : ({ s1 with calls := s1.calls + 1, dur := s1.now, pend := [] } : Dk.Disk).now = s1.now := rfl
    have hwp : ({ s1 with calls := s1.calls + 1, dur := s1.now, pend := [] } : Dk.Disk).pend.length ≤ 1000000 := by simp
    generalize hw : ({ s1 with calls := s1.calls + 1, dur := s1.now, pend := [] } : Dk.Disk) = w at *
    generalize (Dr.sync r1).1 = r2 at *
    rw [← hwn] at hto
    obtain ⟨lw, _, uw, _⟩ := Kept.nowLen hk6 (by omega)
    have hnod := hk6.live.two.nowR.nod
    have hplw := hk6.plan
    repeat' first | simp (disch := first | omega | assumption | decide) only [go_sem, hm, hz, ht, hr_, wdl, bind_some_, map_some_, oneD_fold] | refine ifP_in (fun _ => ?_) fun _ => ?_
    refine rF_use (copy_w hd6 hwp (by omega)) ?_
    rintro _ H7 ⟨⟨jw, rfl, Sw, hw7, hSw⟩, hp7⟩
    have hlt6 := hd6.lt
    have hd7 : DiskAt H7 j S6 w := hd6.grew fun x hx => pre_same hp7 hx
    repeat' first | simp (disch := first | omega | assumption | decide) only [go_sem, hm, hz, ht, hr_, wdl, bind_some_, map_some_, oneD_fold] | refine ifP_in (fun _ => ?_) fun _ => ?_
    refine rF_use (rnew_w 1073741824 (by omega)) ?_
    rintro _ H8 ⟨rfl, hr8, hp8⟩
    have hw8 : DiskAt H8 jw Sw w := hw7.grew fun x hx => pre_same hp8 hx
    have hltw := hw7.lt
    have hpair : Pair H8 j H7.length S6 [H7.length] w (newD 1073741824) := ⟨hd7.grew fun x hx => pre_same hp8 hx, hr8, fun x hx hx2 => by
      have := hd7.lt x hx
      obtain rfl := List.mem_singleton.1 hx2
      omega⟩
    have hwoff : ∀ x ∈ Sw, x ∉ S6 ++ [H7.length] := fun x hx hm => by
      rcases List.mem_append.1 hm with hm | hm
      · have := hlt6 x hm; have := hSw x hx; omega
      · have := hltw x hx
        obtain rfl := List.mem_singleton.1 hm
        omega
    have hkx := Dl.Kept.new 1073741824 (by omega)
    repeat' first | simp (disch := first | omega | assumption | decide) only [go_sem, hm, hz, ht, hr_, wdl, bind_some_, map_some_, oneD_fold] | refine ifP_in (fun _ => ?_) fun _ => ?_
    refine rL_loop (σ := Nat) (fun i e K => e 2 = .sl (more.map opV) ∧ e 3 = .i keep ∧ e 4 = .i torn ∧ e 11 = .ptr j 0 ∧ e 12 = .ptr jw 0 ∧ e 13 = .ptr H7.length 0 ∧ e 16 = .i i ∧ i ≤ more.length ∧ ∃ named : List Bs, e 15 = .sl (named.map AV.str) ∧ named.length ≤ 2 * i ∧ DiskAt K jw Sw w ∧ ∃ S T sd rd sx rx, Pair K j H7.length S T sd rx ∧ (∀ x ∈ Sw, x ∉ S ++ T) ∧ Kept (101 + i) sd rd ∧ Kept i sx rx ∧ Dl.Touch named w.now sd) (fun i => more.length - i) 0 ?_ ?_
    · refine ⟨?_, ?_, ?_, ?_, ?_, ?_, ?_, by omega, [], ?_, by simp, hw8, _, _, _, _, _, _, hpair, hwoff, hk6.le (by omega), hkx, hto⟩
      all_goals first | (simp (disch := first | assumption | omega) only [go_sem]; done) | (simp (disch := first | assumption | omega) only [go_sem]; rfl)
    · rintro i e K ⟨g2, g3, g4, g11, g12, g13, g16, i1, named, g15, hnl, hwK, S, T, sd, rd, sx, rx, hpk, hoff, hkd, hkx, htc⟩
      by_cases hil : i < more.length
      · have hix := ix_at' hil
        have ho := hsm _ (List.getElem_mem hil)
        generalize more[i] = o at *
        by_cases hko : 0 ≤ o.kind ∧ o.kind ≤ 6 ∧ o.kind ≠ 4
        · obtain ⟨ho1, ho2, ho3⟩ := hko
          have h2l : ([o.name, o.to] : List Bs).length = 2 := rfl
          repeat' first | simp (disch := first | omega | assumption | decide) only [go_sem, hm, hz, ht, hr_, g2, g3, g4, g11, g12, g13, g15, g16, hix, cells_opV, cells_str, two_strs, agg_opV, plain_opV, h2l, wdl, bind_some_, map_some_, oneD_fold] | refine ifP_in (fun _ => ?_) fun _ => ?_
          refine rF_use (does_w' hpk hkd hkx (by omega) (by omega) o ho) ?_
          rintro _ K2 ⟨t, rfl, _, S2, T2, hp2, hs2⟩
          repeat' first | simp (disch := first | omega | assumption | decide) only [go_sem, hm, hz, ht, hr_, g2, g3, g4, g11, g12, g13, g15, g16, wdl, bind_some_, map_some_, oneD_fold] | refine ifP_in (fun _ => ?_) fun _ => ?_
          exact ⟨i + 1, ⟨rfl, by omega, named ++ [o.name, o.to], rfl, by simp; omega, hwK.step hs2 hoff, S2, T2, _, _, _, _, hp2, fun x hx hm => by
            rcases hs2.new x hm with h | h
            · exact hoff x hx h
            · have := hwK.lt x hx; omega, (hkd.does ho).le (by push_cast; omega), (hkx.does ho).le (by push_cast; omega), htc.does o ⟨ho1, ho2, ho3⟩⟩, by omega⟩
        · have hskip : ∃ s' : Nat, (AV.v (.int .i64 ((i : Int) + 1)) = AV.i s' ∧ s' ≤ more.length ∧ ∃ nm : List Bs, AV.sl (named.map AV.str) = .sl (nm.map AV.str) ∧ nm.length ≤ 2 * s' ∧ DiskAt K jw Sw w ∧ ∃ S T sd rd sx rx, Pair K j H7.length S T sd rx ∧ (∀ x ∈ Sw, x ∉ S ++ T) ∧ Kept (101 + s') sd rd ∧ Kept s' sx rx ∧ Dl.Touch nm w.now sd) ∧ more.length - s' < more.length - i :=
            ⟨i + 1, ⟨rfl, by omega, named, rfl, by omega, hwK, S, T, sd, rd, sx, rx, hpk, hoff, hkd.le (by push_cast; omega), hkx.le (by push_cast; omega), htc⟩, by omega⟩
          by_cases ho1 : 0 ≤ o.kind
          · by_cases ho2 : o.kind ≤ 6
            · have ho3 : ¬ (o.kind ≠ 4) := fun h => hko ⟨ho1, ho2, h⟩
              repeat' first | simp (disch := first | omega | assumption | decide) only [go_sem, hm, hz, ht, hr_, g2, g3, g4, g11, g12, g13, g15, g16, hix, cells_opV, cells_str, wdl, bind_some_, map_some_, oneD_fold] | refine ifP_in (fun _ => ?_) fun _ => ?_
              exact hskip
            · repeat' first | simp (disch := first | omega | assumption | decide) only [go_sem, hm, hz, ht, hr_, g2, g3, g4, g11, g12, g13, g15, g16, hix, cells_opV, cells_str, wdl, bind_some_, map_some_, oneD_fold] | refine ifP_in (fun _ => ?_) fun _ => ?_
              exact hskip
          · repeat' first | simp (disch := first | omega | assumption | decide) only [go_sem, hm, hz, ht, hr_, g2, g3, g4, g11, g12, g13, g15, g16, hix, cells_opV, cells_str, wdl, bind_some_, map_some_, oneD_fold] | refine ifP_in (fun _ => ?_) fun _ => ?_
            exact hskip
      · have : i = more.length := by omega
        subst this
        repeat' first | simp (disch := first | omega | assumption | decide) only [go_sem, hm, hz, ht, hr_, g2, g3, g4, g11, g12, g13, g15, g16, wdl, bind_some_, map_some_, oneD_fold] | refine ifP_in (fun _ => ?_) fun _ => ?_
        have hpd := hkd.live.two.ok.pend
        have hcl := hkd.calls
        have hpll := hkd.plan
        have hltS := hpk.hd.lt
        obtain ⟨ld, _, ud, _⟩ := Kept.nowLen hkd (by omega)
        refine rF_use (copy_w hpk.hd (by omega) (by omega)) ?_
        rintro _ K1 ⟨⟨ja, rfl, Sa, ha1, hSa⟩, hq1⟩
        have hd1 := hpk.hd.grew fun x hx => pre_same hq1 hx
        have hw1 := hwK.grew fun x hx => pre_same hq1 hx
        have hwl := hwK.lt
        have hal := ha1.lt
        repeat' first | simp (disch := first | omega | assumption | decide) only [go_sem, hm, hz, ht, hr_, g2, g3, g4, g11, g12, g13, g15, g16, wdl, bind_some_, map_some_, oneD_fold] | refine ifP_in (fun _ => ?_) fun _ => ?_
        refine rF_use (copy_w hd1 (by omega) (by omega)) ?_
        rintro _ K2 ⟨⟨jn, rfl, Sn, hn2, hSn⟩, hq2⟩
        have hd2 := hd1.grew fun x hx => pre_same hq2 hx
        have hw2 := hw1.grew fun x hx => pre_same hq2 hx
        have ha2 := ha1.grew fun x hx => pre_same hq2 hx
        have hnl2 := hn2.lt
        repeat' first | simp (disch := first | omega | assumption | decide) only [go_sem, hm, hz, ht, hr_, g2, g3, g4, g11, g12, g13, g15, g16, wdl, bind_some_, map_some_, oneD_fold] | refine ifP_in (fun _ => ?_) fun _ => ?_
        refine rF_use (copy_w hd2 (by omega) (by omega)) ?_
        rintro _ K3 ⟨⟨js, rfl, Ss, hs3, hSs⟩, hq3⟩
        have hd3 := hd2.grew fun x hx => pre_same hq3 hx
        have hw3 := hw2.grew fun x hx => pre_same hq3 hx
        have ha3 := ha2.grew fun x hx => pre_same hq3 hx
        have hn3 := hn2.grew fun x hx => pre_same hq3 hx
        have hqq1 := pre_len hq1
        have hqq2 := pre_len hq2
        have hqq3 := pre_len hq3
        have hok := hkd.live.two.ok
        repeat' first | simp (disch := first | omega | assumption | decide) only [go_sem, hm, hz, ht, hr_, g2, g3, g4, g11, g12, g13, g15, g16, wdl, bind_some_, map_some_, oneD_fold] | refine ifP_in (fun _ => ?_) fun _ => ?_
        refine rF_use (crash_w ha3 hok (by omega) 1073741824 (-1)) ?_
        rintro _ K4 ⟨rfl, Sa4, ha4, hst4⟩
        have hd4' := hd3.step hst4 fun x hx hm => by have := hltS x hx; have := hSa x hm; omega
        have hw4 := hw3.step hst4 fun x hx hm => by have := hwl x hx; have := hSa x hm; omega
        have hn4 := hn3.step hst4 fun x hx hm => by have := hSn x hx; have := hal x hm; omega
        have hs4 := hs3.step hst4 fun x hx hm => by have := hSs x hx; have := hal x hm; omega
        have hst4l := hst4.len
        have hs3l := hs3.lt
        repeat' first | simp (disch := first | omega | assumption | decide) only [go_sem, hm, hz, ht, hr_, g2, g3, g4, g11, g12, g13, g15, g16, wdl, bind_some_, map_some_, oneD_fold] | refine ifP_in (fun _ => ?_) fun _ => ?_
        refine rF_use (crash_w hn4 hok (by omega) 0 (-1)) ?_
        rintro _ K5 ⟨rfl, Sn5, hn5, hst5⟩
        have hd5' := hd4'.step hst5 fun x hx hm => by have := hltS x hx; have := hSn x hm; omega
        have hw5 := hw4.step hst5 fun x hx hm => by have := hwl x hx; have := hSn x hm; omega
        have ha5 := ha4.step hst5 fun x hx hm => by
          rcases hst4.new x hx with h | h
          · have := hal x h; have := hSn x hm; omega
          · have := hnl2 x hm; omega
        have hs5 := hs4.step hst5 fun x hx hm => by have := hSs x hx; have := hnl2 x hm; omega
        repeat' first | simp (disch := first | omega | assumption | decide) only [go_sem, hm, hz, ht, hr_, g2, g3, g4, g11, g12, g13, g15, g16, wdl, bind_some_, map_some_, oneD_fold] | refine ifP_in (fun _ => ?_) fun _ => ?_
        refine rF_use (crash_w hs5 hok (by omega) keep torn) ?_
        rintro _ K6 ⟨rfl, Ss6, hs6, hst6⟩
        have hst5l := hst5.len
        have hd6' := hd5'.step hst6 fun x hx hm => by have := hltS x hx; have := hSs x hm; omega
        have hw6 := hw5.step hst6 fun x hx hm => by have := hwl x hx; have := hSs x hm; omega
        have ha6 := ha5.step hst6 fun x hx hm => by
          rcases hst4.new x hx with h | h
          · have := hal x h; have := hSs x hm; omega
          · have := hs3l x hm; omega
        have hn6 := hn5.step hst6 fun x hx hm => by
          rcases hst5.new x hx with h | h
          · have := hnl2 x h; have := hSs x hm; omega
          · have := hs3l x hm; omega
        have kA := kept_crash hkd 1073741824 (-1)
        have kN := kept_crash hkd 0 (-1)
        have kS := kept_crash hkd keep torn
        obtain ⟨lA, _, uA, _⟩ := Kept.nowLen kA (by omega)
        obtain ⟨lN, _, uN, _⟩ := Kept.nowLen kN (by omega)
        obtain ⟨lS, _, uS, _⟩ := Kept.nowLen kS (by omega)
        have nA : (Dk.crash sd 1073741824 (-1)).now = sd.now := by rw [crash_up htc.down]; exact Dl.fallen_all hok (by omega)
        have nN : (Dk.crash sd 0 (-1)).now = w.now := by rw [crash_up htc.down]; exact Dl.fallen_none.trans htc.dur
        have nS : (Dk.crash sd keep torn).down = true ∧ (Dk.crash sd keep torn).pend = [] := by rw [crash_up htc.down]; exact ⟨rfl, rfl⟩
        have gS : ∀ n, n ∉ named → Dk.get (Dk.crash sd keep torn).now n = Dk.get w.now n := fun n hn => by rw [crash_up htc.down]; exact htc.fallen hn keep torn
        repeat' first | simp (disch := first | omega | assumption | decide) only [go_sem, hm, hz, ht, hr_, g2, g3, g4, g11, g12, g13, g15, g16, wdl, bind_some_, map_some_, oneD_fold] | refine ifP_in (fun _ => ?_) fun _ => ?_
        refine rF_use (alike_w ha6 hd6' lA uA ld ud) ?_
        rintro _ K7 ⟨⟨t, rfl, ht1⟩, rfl⟩
        rw [ht1 nA]
        repeat' first | simp (disch := first | omega | assumption | decide) only [go_sem, hm, hz, ht, hr_, g2, g3, g4, g11, g12, g13, g15, g16, wdl, bind_some_, map_some_, oneD_fold] | refine ifP_in (fun _ => ?_) fun _ => ?_
        refine rF_use (alike_w hn6 hw6 lN uN lw uw) ?_
        rintro _ K8 ⟨⟨t, rfl, ht2⟩, rfl⟩
        rw [ht2 nN]
        repeat' first | simp (disch := first | omega | assumption | decide) only [go_sem, hm, hz, ht, hr_, g2, g3, g4, g11, g12, g13, g15, g16, wdl, bind_some_, map_some_, oneD_fold] | refine ifP_in (fun _ => ?_) fun _ => ?_
        refine rF_use (up_w hs6) ?_
        rintro _ K9 ⟨rfl, rfl⟩
        rw [nS.1]
        repeat' first | simp (disch := first | omega | assumption | decide) only [go_sem, hm, hz, ht, hr_, g2, g3, g4, g11, g12, g13, g15, g16, wdl, bind_some_, map_some_, oneD_fold] | refine ifP_in (fun _ => ?_) fun _ => ?_
        refine rF_use (pending_w hs6) ?_
        rintro _ K10 ⟨rfl, rfl⟩
        rw [nS.2]
        repeat' first | simp (disch := first | omega | assumption | decide) only [go_sem, hm, hz, ht, hr_, g2, g3, g4, g11, g12, g13, g15, g16, List.length_nil, wdl, bind_some_, map_some_, oneD_fold] | refine ifP_in (fun _ => ?_) fun _ => ?_
        refine rF_use (names_w hw6 lw) ?_
        rintro _ K11 ⟨rfl, rfl⟩
        have hmem : ∀ n ∈ dnames w.now, Dk.has w.now n = true := fun n hn => mem_dnames hnod hn
        have hdl : (dnames w.now).length = w.now.length := by unfold dnames; rw [List.length_mergeSort, List.length_map]
        generalize dnames w.now = p at *
        repeat' first | simp (disch := first | omega | assumption | decide) only [go_sem, hm, hz, ht, hr_, g2, g3, g4, g11, g12, g13, g15, g16, wdl, bind_some_, map_some_, oneD_fold] | refine ifP_in (fun _ => ?_) fun _ => ?_
        refine rL_loop (σ := Nat) (fun i e K => K = K11 ∧ e 12 = .ptr jw 0 ∧ e 15 = .sl (named.map AV.str) ∧ e 19 = .ptr js 0 ∧ e 20 = .sl (p.map AV.str) ∧ e 21 = .i i ∧ i ≤ p.length) (fun i => p.length - i) 0 ?_ ?_
        · refine ⟨rfl, ?_, ?_, ?_, ?_, ?_, by omega⟩
          all_goals first | (simp (disch := first | assumption | omega) only [go_sem, g12, g15]; done) | (simp (disch := first | assumption | omega) only [go_sem, g12, g15]; rfl)
        · clear g2 g3 g4 g11 g12 g13 g15 g16
          rintro i e K ⟨hK, g12, g15, g19, g20, g21, i1⟩
          have hK := hK.symm
          subst hK
          by_cases hil : i < p.length
          · have hix := ix_at' hil
            have hmx := hmem _ (List.getElem_mem hil)
            generalize p[i] = x at *
            repeat' first | simp (disch := first | omega | assumption | decide) only [go_sem, hm, hz, ht, hr_, g12, g15, g19, g20, g21, hix, cells_str, wdl, bind_some_, map_some_, oneD_fold] | refine ifP_in (fun _ => ?_) fun _ => ?_
            refine rF_use (peek_w hw6 uw x) ?_
            rintro _ M1 ⟨rfl, rfl⟩
            repeat' first | simp (disch := first | omega | assumption | decide) only [go_sem, hm, hz, ht, hr_, g12, g15, g19, g20, g21, hix, cells_str, wdl, bind_some_, map_some_, oneD_fold] | refine ifP_in (fun _ => ?_) fun _ => ?_
            refine rF_use (peek_w hs6 uS x) ?_
            rintro _ M2 ⟨rfl, rfl⟩
            repeat' first | simp (disch := first | omega | assumption | decide) only [go_sem, hm, hz, ht, hr_, g12, g15, g19, g20, g21, hix, cells_str, wdl, bind_some_, map_some_, oneD_fold] | refine ifP_in (fun _ => ?_) fun _ => ?_
            refine rF_use (has_l_w named x (by omega)) ?_
            rintro _ M3 ⟨rfl, rfl⟩
            by_cases hxn : x ∈ named
            · rw [decide_eq_true hxn]
              repeat' first | simp (disch := first | omega | assumption | decide) only [go_sem, hm, hz, ht, hr_, g12, g15, g19, g20, g21, wdl, bind_some_, map_some_, oneD_fold] | refine ifP_in (fun _ => ?_) fun _ => ?_
              exact ⟨i + 1, ⟨rfl, by omega⟩, by omega⟩
            · rw [decide_eq_false hxn]
              have hg := gS x hxn
              have e1 : Dk.has (Dk.crash sd keep torn).now x = true := by unfold Dk.has at hmx ⊢; rw [hg]; exact hmx
              have e2 : Dk.data (Dk.crash sd keep torn).now x = Dk.data w.now x := by unfold Dk.data; rw [hg]
              rw [e1, e2]
              repeat' first | simp (disch := first | omega | assumption | decide) only [go_sem, hm, hz, ht, hr_, g12, g15, g19, g20, g21, wdl, bind_some_, map_some_, oneD_fold] | refine ifP_in (fun _ => ?_) fun _ => ?_
              refine rF_use (lbytes_w (Dk.data w.now x) (Dk.data w.now x) (.inl rfl) (.inl rfl)) ?_
              rintro _ M4 ⟨rfl, rfl⟩
              rw [decide_eq_true (rfl : Dk.data w.now x = Dk.data w.now x)]
              repeat' first | simp (disch := first | omega | assumption | decide) only [go_sem, hm, hz, ht, hr_, g12, g15, g19, g20, g21, wdl, bind_some_, map_some_, oneD_fold] | refine ifP_in (fun _ => ?_) fun _ => ?_
              exact ⟨i + 1, ⟨rfl, by omega⟩, by omega⟩
          · have : i = p.length := by omega
            subst this
            repeat' first | simp (disch := first | omega | assumption | decide) only [go_sem, hm, hz, ht, hr_, g12, g15, g19, g20, g21, wdl, bind_some_, map_some_, oneD_fold] | refine ifP_in (fun _ => ?_) fun _ => ?_
            refine rF_use first22_w ?_
            rintro _ M1 ⟨rfl, rfl⟩
            repeat' first | simp (disch := first | omega | assumption | decide) only [go_sem, hm, hz, ht, hr_, wdl, bind_some_, map_some_, oneD_fold] | refine ifP_in (fun _ => ?_) fun _ => ?_
theorem keeps_all (room : Int) (l more : List DOp) (keep torn : Int) (_h0 : (Lit.int .i64 room).wf = true) (hl : l.length ≤ 140737488355328) (hbig : ∀ o ∈ l, Big o) (hl2 : more.length ≤ 140737488355328) (hbig2 : ∀ o ∈ more, Big o) (_h3 : (Lit.int .i64 keep).wf = true) (_h4 : (Lit.int .i64 torn).wf = true) :
    WF Try.prog cfg 5 [.i room, .sl (l.map opV), .sl (more.map opV), .i keep, .i torn] H (fun v H' => v = .b true) := keeps_w room l more keep torn hl hbig hl2 hbig2
end Jn
end Go.Proofs
