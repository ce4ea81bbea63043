/- A value semantics of the loaded code, its soundness, and walks through functions over it. -/
import Derived.Test.YtbfcbjmoijiffaaGreatDrAllax0
set_option linter.unusedVariables false
set_option linter.unusedSimpArgs false
/-! The disk's laws: operations, in plain Lean. -/
namespace Dl
open Dk (Files Bs Ch Ev Disk)
structure DOp where
  kind : Int
  keep : Int
  torn : Int
  room : Int
  name : Bs
  to : Bs
  b : Bs
  plan : List Ev
  deriving Inhabited
/-- How large an operation may be. -/
structure Small (o : DOp) : Prop where
  name : o.name.length ≤ 400
  to : o.to.length ≤ 400
  plan : o.plan.length ≤ 40
  b : o.b.length ≤ 140737488355328
def doesD (s : Disk) (o : DOp) : Disk :=
  if o.kind = 0 then (Dk.write s o.name o.b).1 else if o.kind = 1 then (Dk.append s o.name o.b).1 else if o.kind = 2 then (Dk.rename s o.name o.to).1 else if o.kind = 3 then (Dk.delete s o.name).1
  else if o.kind = 4 then (Dk.sync s).1 else if o.kind = 5 then (Dk.read s o.name).1 else if o.kind = 6 then (Dk.call s []).1 else if o.kind = 7 then Dk.crash s o.keep o.torn
  else if o.kind = 8 then { s with down := false } else if o.kind = 9 then { s with plan := o.plan } else if o.kind = 10 then (if 0 ≤ o.room ∧ o.room ≤ 1073741824 then { s with room := o.room } else s) else s
def doesR (s : Disk) (o : DOp) : Disk :=
  if o.kind = 0 then (Dr.write s o.name o.b).1 else if o.kind = 1 then (Dr.append s o.name o.b).1 else if o.kind = 2 then (Dr.rename s o.name o.to).1 else if o.kind = 3 then (Dr.delete s o.name).1
  else if o.kind = 4 then (Dr.sync s).1 else if o.kind = 5 then (Dr.read s o.name).1 else if o.kind = 6 then (Dr.list s).1 else if o.kind = 7 then Dr.crash s o.keep o.torn
  else if o.kind = 8 then { s with down := false } else if o.kind = 9 then Dr.plan s o.plan else if o.kind = 10 then (if 0 ≤ o.room ∧ o.room ≤ 1073741824 then { s with room := o.room } else s) else s

theorem list_begun {s r : Disk} (h : Dr.Live s r) : (Dr.list r).1 = (Dr.events r).1 ∧ (Dr.list r).2.2 = (Dk.call s []).2.2 := by
  unfold Dr.list
  simp only [h.begin0]
  split
  · exact ⟨rfl, rfl⟩
  · rename_i h0
    exact ⟨rfl, by simpa using (Classical.not_not.1 h0).symm⟩
/-- What stays, whatever is done. -/
structure Kept (n : Int) (s r : Disk) : Prop where
  live : Dr.Live s r
  calls : s.calls ≤ n
  plan : s.plan.length ≤ 40
  rplan : r.plan.length ≤ 40
theorem call_next {s r s' r' : Disk} {n : Int} (h : Kept n s r) (hn : Dr.Next s s' r r') (hp : r'.plan = r.plan) : Kept (n + 1) s' r' :=
  ⟨hn.live, by rw [hn.calls]; have := h.calls; omega, by rw [hn.plan]; exact h.plan, by rw [hp]; exact h.rplan⟩
theorem begin_plan (s : Disk) (n : Bs) (t : Bool) : (Dr.begin s n t).1.plan = s.plan := (Dr.events_calls s).2
theorem rwrite_plan (s : Disk) (n b : Bs) : (Dr.write s n b).1.plan = s.plan := by
  have h := begin_plan s n true
  unfold Dr.write
  simp only
  split
  · exact h
  · split <;> exact h
theorem rappend_plan (s : Disk) (n b : Bs) : (Dr.append s n b).1.plan = s.plan := by
  have h := begin_plan s n true
  unfold Dr.append
  simp only
  split
  · exact h
  · split <;> exact h
theorem rrename_plan (s : Disk) (n b : Bs) : (Dr.rename s n b).1.plan = s.plan := by
  have h := begin_plan s n true
  unfold Dr.rename
  simp only
  split
  · exact h
  · split
    · exact h
    · split
      · exact h
      · split <;> exact h
theorem rdelete_plan (s : Disk) (n : Bs) : (Dr.delete s n).1.plan = s.plan := by
  have h := begin_plan s n true
  unfold Dr.delete
  simp only
  split
  · exact h
  · split <;> exact h
theorem rsync_plan (s : Disk) : (Dr.sync s).1.plan = s.plan := by
  have h := begin_plan s [] false
  unfold Dr.sync
  simp only
  split <;> exact h
theorem rread_plan (s : Disk) (n : Bs) : (Dr.read s n).1.plan = s.plan := by
  have h := begin_plan s n true
  unfold Dr.read
  simp only
  split
  · exact h
  · split <;> exact h
theorem Kept.list {n : Int} {s r : Disk} (h : Kept n s r) : Kept (n + 1) (Dk.call s []).1 (Dr.list r).1 := by
  obtain ⟨h1, h2, h3⟩ := h.live.begun
  rw [(list_begun h.live).1]
  exact call_next h h3 (Dr.events_calls r).2
theorem Kept.le {n m : Int} {s r : Disk} (h : Kept n s r) (hm : n ≤ m) : Kept m s r := ⟨h.live, Int.le_trans h.calls hm, h.plan, h.rplan⟩
theorem Kept.does {n : Int} {s r : Disk} (h : Kept n s r) {o : DOp} (ho : Small o) : Kept (n + 1) (doesD s o) (doesR r o) := by
  unfold doesD doesR
  by_cases c0 : o.kind = 0
  · rw [if_pos c0, if_pos c0]
    exact call_next h (h.live.write _ _).1 (rwrite_plan _ _ _)
  rw [if_neg c0, if_neg c0]
  by_cases c1 : o.kind = 1
  · rw [if_pos c1, if_pos c1]
    exact call_next h (h.live.append _ _).1 (rappend_plan _ _ _)
  rw [if_neg c1, if_neg c1]
  by_cases c2 : o.kind = 2
  · rw [if_pos c2, if_pos c2]
    exact call_next h (h.live.rename _ _).1 (rrename_plan _ _ _)
  rw [if_neg c2, if_neg c2]
  by_cases c3 : o.kind = 3
  · rw [if_pos c3, if_pos c3]
    exact call_next h (h.live.delete _).1 (rdelete_plan _ _)
  rw [if_neg c3, if_neg c3]
  by_cases c4 : o.kind = 4
  · rw [if_pos c4, if_pos c4]
    exact call_next h h.live.sync.1 (rsync_plan _)
  rw [if_neg c4, if_neg c4]
  by_cases c5 : o.kind = 5
  · rw [if_pos c5, if_pos c5]
    exact call_next h (h.live.read _).1 (rread_plan _ _)
  rw [if_neg c5, if_neg c5]
  by_cases c6 : o.kind = 6
  · rw [if_pos c6, if_pos c6]
    exact h.list
  rw [if_neg c6, if_neg c6]
  by_cases c7 : o.kind = 7
  · rw [if_pos c7, if_pos c7]
    obtain ⟨h1, h2, h3⟩ := h.live.crash o.keep o.torn
    exact Kept.le (n := n) ⟨h1, by rw [h2]; exact h.calls, by rw [h3]; exact h.plan, by rw [(Dr.crash_calls _ _ _).2]; exact h.rplan⟩ (by omega)
  rw [if_neg c7, if_neg c7]
  by_cases c8 : o.kind = 8
  · rw [if_pos c8, if_pos c8]
    exact Kept.le (n := n) ⟨h.live.reboot, h.calls, h.plan, h.rplan⟩ (by omega)
  rw [if_neg c8, if_neg c8]
  by_cases c9 : o.kind = 9
  · rw [if_pos c9, if_pos c9]
    exact Kept.le (n := n) ⟨h.live.planned o.plan, h.calls, ho.plan, Nat.le_trans (List.length_filter_le _ _) ho.plan⟩ (by omega)
  rw [if_neg c9, if_neg c9]
  by_cases c10 : o.kind = 10
  · rw [if_pos c10, if_pos c10]
    by_cases hr : 0 ≤ o.room ∧ o.room ≤ 1073741824
    · rw [if_pos hr, if_pos hr]
      exact Kept.le (n := n) ⟨h.live.resize _ hr, h.calls, h.plan, h.rplan⟩ (by omega)
    · rw [if_neg hr, if_neg hr]
      exact h.le (by omega)
  rw [if_neg c10, if_neg c10]
  exact h.le (by omega)
theorem Kept.new (room : Int) (h : 0 ≤ room ∧ room ≤ 1073741824) : Kept 0 ⟨room, [], [], [], [], 0, false⟩ ⟨room, [], [], [], [], 0, false⟩ := ⟨Dr.Live.new room h, by simp, by simp, by simp⟩
theorem Kept.fold {n : Int} {s r : Disk} (h : Kept n s r) : ∀ (l : List DOp), (∀ o ∈ l, Small o) → Kept (n + l.length) (l.foldl doesD s) (l.foldl doesR r) := by
  intro l
  induction l generalizing n s r with
  | nil => intro _; simpa using h
  | cons o l ih =>
    intro hl
    have := ih (h.does (hl o (by simp))) (fun x hx => hl x (List.mem_cons_of_mem _ hx))
    exact this.le (by simp; omega)
end Dl
/- Walks: what the disk's laws share. -/
set_option linter.unusedVariables false
set_option linter.unusedSimpArgs false
namespace Go.Proofs
open Go.Lv
namespace Jn
open Dk (Files Bs Ch Ev)
open Dl (DOp Small)
variable {H : Heap}

theorem bytesV_reads' {a : AV} {l : List UInt8} (ha : Reads H a l) : bytesV H a = some ⟨⟨l⟩⟩ := by
  rcases ha with rfl | ⟨j, off, xs, rfl, hj, hx, h0⟩
  · exact bytesOfA_map l
  · have hle : off + l.length ≤ xs.length := by
      have := congrArg List.length hx
      simp at this; omega
    simp only [bytesV, hj, Option.bind_some]
    rw [if_pos ⟨h0, by rw [List.length_map]; exact hle, (plainRow_spec (plainRow_one (all_cell1 xs))).1⟩, ← List.map_drop, ← List.map_take, hx]
    exact bytesOfA_map l
theorem lbytes_w (a b : List UInt8) {x y : AV} (hx : Reads H x a) (hy : Reads H y b) : WF Tryz.prog cfg 46 [x, y] H (fun r H' => r = .b (decide (a = b)) ∧ H' = H) := by
  refine WF.ext (g := fun args H => equalT H args) rfl (r := .b (decide (a = b))) (H' := H) ?_ ⟨rfl, rfl⟩
  show equalT H [x, y] = _
  simp only [equalT, bytesV_reads' hx, bytesV_reads' hy, Option.bind_some, Option.map_some, toList_mk]
  congr 4
  by_cases h : a = b <;> simp [h]
theorem texts_w (a b : List Bs) (ha : a.length < 100000000) (hb : b.length < 100000000) : WF Tryz.prog cfg 49 [.sl (a.map AV.str), .sl (b.map AV.str)] H (fun r H' => r = .b (decide (a = b)) ∧ H' = H) := by
  have hm : ∀ d, cfg.muF 49 d = (false) := fun _ => rfl
  have hz : ∀ d, cfg.fzF 49 d = (false) := fun _ => rfl
  have ht : ∀ d, cfg.tkF 49 d = (false) := fun _ => rfl
  have hr_ : ∀ g, cfg.raw g = (g == 68) := fun _ => rfl
  refine rF_fn rfl rfl Tryz.func49 rfl ?_
  by_cases hl : a.length = b.length
  · have hl' : ¬ ((a.length : Int) ≠ b.length) := by omega
    repeat' first | simp (disch := first | omega | assumption | decide) only [go_sem, hm, hz, ht, hr_] | refine ifP_in (fun _ => ?_) fun _ => ?_
    refine rL_loop (σ := Nat) (fun i e K => K = H ∧ e 0 = .sl (a.map AV.str) ∧ e 1 = .sl (b.map AV.str) ∧ e 5 = .i i ∧ i ≤ a.length ∧ a.take i = b.take i) (fun i => a.length - i) 0 ?_ ?_
    · refine ⟨rfl, ?_, ?_, ?_, by omega, by simp⟩
      all_goals first | (simp (disch := first | assumption | omega) only [go_sem]; done) | (simp (disch := first | assumption | omega) only [go_sem]; rfl)
    · rintro i e K ⟨hK, g0, g1, g5, i1, i2⟩
      have hK := hK.symm
      subst hK
      by_cases hil : i < a.length
      · have hix := ix_at' hil
        have hiy := ix_at' (show i < b.length by omega)
        have hs : a.take (i + 1) = a.take i ++ [a[i]] := List.take_succ_eq_append_getElem hil
        have hs2 : b.take (i + 1) = b.take i ++ [b[i]'(by omega)] := List.take_succ_eq_append_getElem (by omega)
        have hne : a[i] ≠ b[i]'(by omega) → a ≠ b := by rintro h rfl; exact h rfl
        generalize a[i] = x at *
        generalize b[i]'(by omega) = y at *
        repeat' first | simp (disch := first | omega | assumption | decide) only [go_sem, hm, hz, ht, hr_, g0, g1, g5, hix, hiy, cells_str, wdl, bind_some_, map_some_, oneD_fold] | refine ifP_in (fun _ => ?_) fun _ => ?_
        · rw [decide_eq_false (hne (by assumption))]
        · rename_i he
          have he : x = y := Classical.not_not.1 he
          exact ⟨i + 1, ⟨rfl, by omega, by rw [hs, hs2, i2, he]⟩, by omega⟩
      · have : i = a.length := by omega
        subst this
        have : a = b := by rw [List.take_length, hl, List.take_length] at i2; exact i2
        repeat' first | simp (disch := first | omega | assumption | decide) only [go_sem, hm, hz, ht, hr_, g0, g1, g5, wdl, bind_some_, map_some_, oneD_fold] | refine ifP_in (fun _ => ?_) fun _ => ?_
        rw [decide_eq_true this]
  · have hl' : (a.length : Int) ≠ b.length := by omega
    repeat' first | simp (disch := first | omega | assumption | decide) only [go_sem, hm, hz, ht, hr_] | refine ifP_in (fun _ => ?_) fun _ => ?_
    rw [decide_eq_false (fun e => hl (by rw [e]))]
theorem plainE_w (l : List Ev) (hl : l.length < 100000000) : WF Tryz.prog cfg 54 [.sl (l.map evA)] H (fun r H' => r = .sl (l.map evA) ∧ H' = H) := by
  have hm : ∀ d, cfg.muF 54 d = (false) := fun _ => rfl
  have hz : ∀ d, cfg.fzF 54 d = (false) := fun _ => rfl
  have ht : ∀ d, cfg.tkF 54 d = (false) := fun _ => rfl
  have hr_ : ∀ g, cfg.raw g = (g == 68) := fun _ => rfl
  refine rF_fn rfl rfl Tryz.func54 rfl ?_
  repeat' first | simp (disch := first | omega | assumption | decide) only [go_sem, hm, hz, ht, hr_] | refine ifP_in (fun _ => ?_) fun _ => ?_
  refine rL_loop (σ := Nat) (fun i e K => K = H ∧ e 0 = .sl (l.map evA) ∧ e 3 = .sl ((l.take i).map evA) ∧ e 4 = .i i ∧ i ≤ l.length) (fun i => l.length - i) 0 ?_ ?_
  · refine ⟨rfl, ?_, ?_, ?_, by omega⟩
    all_goals first | (simp (disch := first | assumption | omega) only [go_sem]; done) | (simp (disch := first | assumption | omega) only [go_sem]; rfl)
  · rintro i e K ⟨hK, g0, g3, g4, i1⟩
    have hK := hK.symm
    subst hK
    by_cases hil : i < l.length
    · have hix := ix_at' hil
      have hs : l.take (i + 1) = l.take i ++ [l[i]] := List.take_succ_eq_append_getElem hil
      have ht1 : (l.take i).length ≤ 100000000 := by simp; omega
      have hx : ((evA l[i]).cells) = [AV.i l[i].at_, AV.i l[i].kind, AV.i l[i].keep, AV.i l[i].torn] := rfl
      have hagg : AV.agg [AV.i l[i].at_, AV.i l[i].kind, AV.i l[i].keep, AV.i l[i].torn] = evA l[i] := rfl
      have hck := cellsOK_of (f := evA) (n := 4) l[i]
      generalize l[i] = x at *
      repeat' first | simp (disch := first | omega | assumption | decide) only [go_sem, hm, hz, ht, hr_, g0, g3, g4, hix, hx, hagg, hck, wdl, bind_some_, map_some_, oneD_fold] | refine ifP_in (fun _ => ?_) fun _ => ?_
      exact ⟨i + 1, ⟨by rw [hs], rfl, by omega⟩, by omega⟩
    · have : i = l.length := by omega
      subst this
      rw [List.take_length] at g3
      repeat' first | simp (disch := first | omega | assumption | decide) only [go_sem, hm, hz, ht, hr_, g0, g3, g4, wdl, bind_some_, map_some_, oneD_fold] | refine ifP_in (fun _ => ?_) fun _ => ?_

def opV (o : DOp) : AV := .agg [.i o.kind, .i o.keep, .i o.torn, .i o.room, AV.str o.name, AV.str o.to, AV.bytes o.b, .sl (o.plan.map evA)]
instance : CellsN opV 8 := ⟨fun _ => rfl⟩
instance : OneOK opV := ⟨fun _ => rfl⟩
theorem cells_opV (o : DOp) : (opV o).cells = [.i o.kind, .i o.keep, .i o.torn, .i o.room, AV.str o.name, AV.str o.to, AV.bytes o.b, .sl (o.plan.map evA)] := rfl
/-- What an argument may be. -/
structure Big (o : DOp) : Prop where
  name : o.name.length ≤ 140737488355328
  to : o.to.length ≤ 140737488355328
  plan : o.plan.length ≤ 140737488355328
  b : o.b.length ≤ 140737488355328
theorem few_w (l : List DOp) (hl : l.length ≤ 140737488355328) (hbig : ∀ o ∈ l, Big o) : WF Tryz.prog cfg 25 [.sl (l.map opV)] H (fun r H' => (∃ t, r = .b t ∧ (t = true → l.length ≤ 100 ∧ ∀ o ∈ l, Small o)) ∧ H' = H) := by
  have hm : ∀ d, cfg.muF 25 d = (false) := fun _ => rfl
  have hz : ∀ d, cfg.fzF 25 d = (false) := fun _ => rfl
  have ht : ∀ d, cfg.tkF 25 d = (false) := fun _ => rfl
  have hr_ : ∀ g, cfg.raw g = (g == 68) := fun _ => rfl
  refine rF_fn rfl rfl Tryz.func25 rfl ?_
  repeat' first | simp (disch := first | omega | assumption | decide) only [go_sem, hm, hz, ht, hr_] | refine ifP_in (fun _ => ?_) fun _ => ?_
  refine rL_loop (σ := Nat) (fun i e K => K = H ∧ e 0 = .sl (l.map opV) ∧ (∃ n : Int, e 3 = .i n ∧ 0 ≤ n ∧ n ≤ 240000) ∧ e 4 = .i i ∧ i ≤ l.length ∧ i ≤ 100 ∧ ∀ o ∈ l.take i, Small o) (fun i => l.length - i) 0 ?_ ?_
  · refine ⟨rfl, ?_, ⟨0, ?_, by omega, by omega⟩, ?_, by omega, by omega, by simp⟩
    all_goals first | (simp (disch := first | assumption | omega) only [go_sem]; done) | (simp (disch := first | assumption | omega) only [go_sem]; rfl)
  · rintro i e K ⟨hK, g0, ⟨n, g3, n0, n1⟩, g4, i1, i3, i2⟩
    have hK := hK.symm
    subst hK
    by_cases hil : i < l.length
    · have hix := ix_at' hil
      have hs : l.take (i + 1) = l.take i ++ [l[i]] := List.take_succ_eq_append_getElem hil
      have hb := hbig _ (List.getElem_mem hil)
      generalize l[i] = o at *
      obtain ⟨b1, b2, b3, b4⟩ := hb
      by_cases h100 : i < 100
      · repeat' first | simp (disch := first | omega | assumption | decide) only [go_sem, hm, hz, ht, hr_, g0, g3, g4, hix, cells_opV, cells_str, AV.bytes, wdl, bind_some_, map_some_, oneD_fold] | refine ifP_in (fun _ => ?_) fun _ => ?_
        all_goals first
          | exact ⟨false, rfl, by simp⟩
          | (refine ⟨i + 1, ⟨⟨_, rfl, by omega, by omega⟩, rfl, by omega, by omega, fun p hp => ?_⟩, by omega⟩
             rw [hs, List.mem_append, List.mem_singleton] at hp
             rcases hp with hp | rfl
             · exact i2 p hp
             · exact ⟨by omega, by omega, by omega, by omega⟩)
      · have hgt : ¬ ((l.length : Int) ≤ 100) := by omega
        repeat' first | simp (disch := first | omega | assumption | decide) only [go_sem, hm, hz, ht, hr_, g0, g3, g4, wdl, bind_some_, map_some_, oneD_fold] | refine ifP_in (fun _ => ?_) fun _ => ?_
        exact ⟨false, rfl, by simp⟩
    · have : i = l.length := by omega
      subst this
      rw [List.take_length] at i2
      have hle : (l.length : Int) ≤ 100 := by omega
      repeat' first | simp (disch := first | omega | assumption | decide) only [go_sem, hm, hz, ht, hr_, g0, g3, g4, wdl, bind_some_, map_some_, oneD_fold] | refine ifP_in (fun _ => ?_) fun _ => ?_
      exact ⟨_, rfl, fun _ => ⟨i3, i2⟩⟩
end Jn
end Go.Proofs
/- Walks: an operation on both disks. -/
set_option linter.unusedVariables false
set_option linter.unusedSimpArgs false
namespace Go.Proofs
open Go.Lv
namespace Jn
open Dk (Files Bs Ch Ev)
open Dl (DOp Small Kept doesD doesR)
variable {H : Heap}

theorem Step.at_ {H H1 : Heap} {U U1 : List Nat} (hs : Step H U H1 U1) {p : Nat} (hp : p < H.length) (hu : p ∉ U) : H1[p]? = H[p]? ∧ p ∉ U1 := ⟨hs.same p hp hu, fun h => by
  rcases hs.new p h with h | h
  · exact hu h
  · omega⟩
structure Pair (H : Heap) (j k : Nat) (S T : List Nat) (s r : Dk.Disk) : Prop where
  hd : DiskAt H j S s
  hr : RefAt H k T r
  ap : ∀ x ∈ S, x ∉ T
theorem Pair.stepL {H H1 : Heap} {j k : Nat} {S T S1 : List Nat} {s r s1 : Dk.Disk} (h : Pair H j k S T s r) (hs : Step H S H1 S1) (hd1 : DiskAt H1 j S1 s1) : Pair H1 j k S1 T s1 r ∧ Step H (S ++ T) H1 (S1 ++ T) := by
  have hT := h.hr.lt
  refine ⟨⟨hd1, h.hr.same fun x hx => hs.same x (hT x hx) (fun hm => h.ap x hm hx), fun x hx hxT => ?_⟩, ⟨hs.len, fun i hi hS => hs.same i hi (fun hm => hS (List.mem_append_left _ hm)), fun x hx => ?_⟩⟩
  · rcases hs.new x hx with hm | hm
    · exact h.ap x hm hxT
    · have := hT x hxT; omega
  · rcases List.mem_append.1 hx with hx | hx
    · rcases hs.new x hx with hm | hm
      · exact .inl (List.mem_append_left _ hm)
      · exact .inr hm
    · exact .inl (List.mem_append_right _ hx)
theorem Pair.stepR {H H1 : Heap} {j k : Nat} {S T T1 : List Nat} {s r r1 : Dk.Disk} (h : Pair H j k S T s r) (hs : Step H T H1 T1) (hr1 : RefAt H1 k T1 r1) : Pair H1 j k S T1 s r1 ∧ Step H (S ++ T) H1 (S ++ T1) := by
  have hS := h.hd.lt
  refine ⟨⟨h.hd.same fun x hx => hs.same x (hS x hx) (h.ap x hx), hr1, fun x hx hxT => ?_⟩, ⟨hs.len, fun i hi hS => hs.same i hi (fun hm => hS (List.mem_append_right _ hm)), fun x hx => ?_⟩⟩
  · rcases hs.new x hxT with hm | hm
    · exact h.ap x hx hm
    · have := hS x hx; omega
  · rcases List.mem_append.1 hx with hx | hx
    · exact .inl (List.mem_append_left _ hx)
    · rcases hs.new x hx with hm | hm
      · exact .inl (List.mem_append_right _ hm)
      · exact .inr hm
theorem Pair.same {H H1 : Heap} {j k : Nat} {S T : List Nat} {s r : Dk.Disk} (h : Pair H j k S T s r) (he : ∀ x ∈ S ++ T, H1[x]? = H[x]?) : Pair H1 j k S T s r :=
  ⟨h.hd.same fun x hx => he x (List.mem_append_left _ hx), h.hr.same fun x hx => he x (List.mem_append_right _ hx), h.ap⟩
theorem Pair.lt {H : Heap} {j k : Nat} {S T : List Nat} {s r : Dk.Disk} (h : Pair H j k S T s r) : ∀ x ∈ S ++ T, x < H.length := fun x hx => by
  rcases List.mem_append.1 hx with hx | hx
  · exact h.hd.lt x hx
  · exact h.hr.lt x hx
theorem pre_same {H H1 : Heap} (hp : H <+: H1) {x : Nat} (hx : x < H.length) : H1[x]? = H[x]? := by
  obtain ⟨G, rfl⟩ := hp
  exact List.getElem?_append_left hx
theorem Pair.pre {H H1 : Heap} {j k : Nat} {S T : List Nat} {s r : Dk.Disk} (h : Pair H j k S T s r) (hp : H <+: H1) : Pair H1 j k S T s r := h.same fun x hx => pre_same hp (h.lt x hx)

theorem Kept.can {n : Int} {s r : Dk.Disk} (h : Kept n s r) (hn : n ≤ 1000) : Can s := ⟨h.live.two.ok, by have := h.calls; omega, by have := h.plan; omega⟩
theorem Kept.can2 {n : Int} {s r : Dk.Disk} (h : Kept n s r) (hn : n ≤ 1000) : Can2 s r := ⟨h.live, by have := h.calls; omega, by have := h.rplan; omega⟩
theorem Kept.evLen {n : Int} {s r : Dk.Disk} (h : Kept n s r) (hn : n ≤ 1000) : (Dk.events s).1.now.length ≤ 1000000 := by
  obtain ⟨h1, _, _⟩ := h.live.begun
  have := h1.lenNow
  have := h.calls
  omega
theorem Kept.nowLen {n : Int} {s r : Dk.Disk} (h : Kept n s r) (hn : n ≤ 1000) : s.now.length ≤ 1000000 ∧ r.now.length ≤ 1000000 ∧ Dk.used s.now ≤ 1073741824 ∧ Dk.used r.now ≤ 1073741824 := by
  have h1 := h.live.two.lenNow
  have h2 := h.live.two.nowR
  have h3 := h.calls
  have h4 := h.live.two.ok.used
  unfold Dk.Len at h4
  rw [h2.len, h2.used]
  exact ⟨by omega, by omega, h4, h4⟩
/-- The names of files in order. -/
theorem dnames_eq {g f : Files} (h : Dr.Rel g f) : dnames f = g.map (·.1) := by
  have hp : (f.map (·.1)).Perm (g.map (·.1)) := h.perm.symm.map _
  unfold dnames
  rw [mergeSort_of_perm hp]
  apply List.mergeSort_of_pairwise
  refine List.pairwise_map.2 (h.srt.imp fun {a b} hab => ?_)
  simpa [leB] using List.le_of_lt hab

theorem copyB_alt {b : Bs} (hb : b.length ≤ 140737488355328) : ∃ y H1, copyBA H [.sl (b.map byteA)] = some (y, H1) ∧ Reads H1 y b ∧ H <+: H1 ∧ ((b = [] ∧ y = .sl [] ∧ H1 = H) ∨ (y = .mr H.length 0 b.length 1 false ∧ H1 = H ++ [b.map byteA] ∧ 0 < b.length)) := by
  rcases Nat.eq_zero_or_pos b.length with h0 | h0
  · have : b = [] := List.eq_nil_of_length_eq_zero h0
    subst this
    exact ⟨_, _, rfl, .inl rfl, List.prefix_refl _, .inl ⟨rfl, rfl, rfl⟩⟩
  · refine ⟨.mr H.length 0 b.length 1 false, H ++ [b.map byteA], ?_, .inr ⟨H.length, 0, b, rfl, get_end_ _, by simp, h0⟩, List.prefix_append _ _, .inr ⟨rfl, rfl, h0⟩⟩
    simp only [copyBA, u8s_bytes, Option.bind_some]
    rw [if_neg (by rw [List.length_map]; omega), if_pos (by simpa using hb)]
    simp

theorem dlist_len {n : Int} {s r : Dk.Disk} (h : Kept n s r) (hn : n ≤ 1000) : (dlist s).2.1.length < 100000000 := by
  have h1 := Kept.evLen h hn
  unfold dlist
  have hcs : (Dk.call s []).1 = (Dk.events s).1 := rfl
  simp only
  split
  · simp
  · rw [hcs]; unfold dnames; rw [List.length_mergeSort, List.length_map]; omega
theorem rlist_len {n : Int} {s r : Dk.Disk} (h : Kept n s r) (hn : n ≤ 1000) : (Dr.list r).2.1.length < 100000000 := by
  have h1 := (Can2.begun (Kept.can2 h hn)).len
  unfold Dr.list
  have hcs : (Dr.begin r [] false).1 = (Dr.events r).1 := rfl
  simp only
  split
  · simp
  · rw [hcs, List.length_map]; omega
theorem dlist_fst {s : Dk.Disk} : (dlist s).1 = (Dk.call s []).1 := by
  unfold dlist
  simp only
  split <;> rfl
theorem dlist_eq {s r : Dk.Disk} (h : Dr.Live s r) : (dlist s).2 = (Dr.list r).2 := by
  obtain ⟨h1, h2, h3⟩ := h.begun
  unfold dlist Dr.list
  have hcs : (Dk.call s []).1 = (Dk.events s).1 := rfl
  simp only [h.begin0, hcs]
  split
  · rfl
  · rw [dnames_eq h1.nowR]
theorem Step.off_ {H H1 H2 : Heap} {U U1 : List Nat} (hs : Step H U H1 U1) (hl : H1.length ≤ H2.length) (he : ∀ x, x < H.length → H2[x]? = H1[x]?) : Step H U H2 U1 :=
  ⟨Nat.le_trans hs.len hl, fun x hx hU => by rw [he x hx]; exact hs.same x hx hU, hs.new⟩
set_option maxHeartbeats 4000000 in
theorem does_w' {j k : Nat} {S T : List Nat} {n n' : Int} {s r s0 r0 : Dk.Disk} (hp : Pair H j k S T s r) (hk1 : Kept n s r0) (hk2 : Kept n' s0 r) (hn : n ≤ 1000) (hn' : n' ≤ 1000) (o : DOp) (ho : Small o) :
    WF Tryz.prog cfg 14 [.ptr j 0, .ptr k 0, opV o] H (fun v H' => ∃ t, v = .b t ∧ (Dr.Live s r → t = true) ∧ ∃ S' T', Pair H' j k S' T' (doesD s o) (doesR r o) ∧ Step H (S ++ T) H' (S' ++ T')) := by
  have hone := OneOK.h (f := opV) o
  have hcells : (opV o).cells.length = 8 := rfl
  obtain ⟨o1, o2, o3, o4⟩ := ho
  have hm : ∀ d, cfg.muF 14 d = (d == 7 || d == 20) := fun _ => rfl
  have hz : ∀ d, cfg.fzF 14 d = (false) := fun _ => rfl
  have ht : ∀ d, cfg.tkF 14 d = (false) := fun _ => rfl
  have hr_ : ∀ g, cfg.raw g = (g == 68) := fun _ => rfl
  refine rF_fn rfl rfl Tryz.func14 rfl ?_
  have hb : (H ++ [(opV o).cells])[H.length]? = some [.i o.kind, .i o.keep, .i o.torn, .i o.room, AV.str o.name, AV.str o.to, AV.bytes o.b, .sl (o.plan.map evA)] := end_get H (opV o).cells
  have hpre : H <+: H ++ [(opV o).cells] := List.prefix_append _ _
  have hl1 : (H ++ [(opV o).cells]).length = H.length + 1 := by simp
  generalize hH1 : H ++ [(opV o).cells] = H1 at *
  have hp1 := hp.pre hpre
  repeat' first | simp (disch := first | omega | assumption | decide) only [go_sem, hm, hz, ht, hr_, hone, hH1, hb, AV.bytes, wdl, bind_some_, map_some_, oneD_fold] | refine ifP_in (fun _ => ?_) fun _ => ?_
  obtain ⟨y, H2, hcp, hry, hp2, hyc⟩ := copyB_alt (H := H1) o4
  refine rFalt_some rfl hcp ?_
  have hp02 := hpre.trans hp2
  have hpair := hp.pre hp02
  have hlt := hp.lt
  have hb2 := pre_get hp2 hb
  have hl2 := pre_len hp2
  have hoff : Off y (S ++ T) := by
    rintro k0 off len n0 g hy hm
    have := hlt k0 hm
    rcases hyc with ⟨_, rfl, _⟩ | ⟨rfl, _⟩
    · cases hy
    · injection hy with hy; omega
  have hboxU : H.length ∉ S ++ T := fun hm => by have := hlt _ hm; omega
  have hboxl : H.length < H2.length := (List.getElem?_eq_some_iff.1 hb2).1
  have hoffS : Off y S := fun k0 off len n0 g hy hm => hoff k0 off len n0 g hy (List.mem_append_left _ hm)
  have hpy : plainA y = y := hry.plain
  have hst0 : Step H (S ++ T) H2 (S ++ T) := Step.grew (pre_len hp02) fun x hx => pre_same hp02 hx
  by_cases c0 : o.kind = 0
  · have eD : doesD s o = (Dk.write s o.name o.b).1 := by simp [doesD, c0]
    have eR : doesR r o = (Dr.write r o.name o.b).1 := by simp [doesR, c0]
    rw [eD, eR]
    rw [c0] at hb2
    repeat' first | simp (disch := first | omega | assumption | decide) only [go_sem, hm, hz, ht, hr_, hb2, hpy, AV.bytes, wdl, bind_some_, map_some_, oneD_fold] | refine ifP_in (fun _ => ?_) fun _ => ?_
    refine rF_use (write_r hpair.hd (Kept.can hk1 hn) o.name o.b (by omega) (by omega) hry hoffS) ?_
    rintro _ H3 ⟨rfl, S3, hd3, hs3⟩
    obtain ⟨hpair3, hst3⟩ := hpair.stepL hs3 hd3
    have hb3 := (hst3.at_ hboxl hboxU).1.trans hb2
    repeat' first | simp (disch := first | omega | assumption | decide) only [go_sem, hm, hz, ht, hr_, hb2, hb3, hpy, AV.bytes, wdl, bind_some_, map_some_, oneD_fold] | refine ifP_in (fun _ => ?_) fun _ => ?_
    refine rF_use (rwrite_w hpair3.hr (Kept.can2 hk2 hn') o.name o.b (by omega) (by omega)) ?_
    rintro _ H4 ⟨rfl, T4, hr4, hs4⟩
    obtain ⟨hpair4, hst4⟩ := hpair3.stepR hs4 hr4
    have hst := hst3.trans hst4
    have hb4 := (hst.at_ hboxl hboxU).1.trans hb2
    have hans : Dr.Live s r → (Dk.write s o.name o.b).2 = (Dr.write r o.name o.b).2 := fun hl => (hl.write _ _).2.symm
    repeat' first | simp (disch := first | omega | assumption | decide) only [go_sem, hm, hz, ht, hr_, hb2, hb3, hb4, hpy, AV.bytes, wdl, bind_some_, map_some_, oneD_fold] | refine ifP_in (fun _ => ?_) fun _ => ?_
    have hry4 := hry.step hoff hst
    refine rF_use (lbytes_w o.b o.b hry4 (.inl rfl)) ?_
    rintro _ H6 ⟨rfl, rfl⟩
    rw [decide_eq_true (rfl : o.b = o.b)]
    rcases hyc with ⟨hb0, rfl, hH2⟩ | ⟨rfl, hH2, hbl⟩
    · repeat' first | simp (disch := first | omega | assumption | decide) only [go_sem, hm, hz, ht, hr_, hb2, hb4, hpy, AV.bytes, wdl, bind_some_, map_some_, oneD_fold] | refine ifP_in (fun _ => ?_) fun _ => ?_
      refine rL_loop (σ := Nat) (fun i e K => K = H6 ∧ (∃ t, e 8 = .b t ∧ (Dr.Live s r → t = true)) ∧ e 7 = .sl [] ∧ e 17 = .i 0) (fun i => i) 0 ?_ ?_
      · refine ⟨rfl, ⟨_, ?_, fun hl => decide_eq_true (hans hl)⟩, ?_, ?_⟩
        all_goals first | (simp (disch := first | assumption | omega) only [go_sem]; done) | (simp (disch := first | assumption | omega) only [go_sem]; rfl)
      · rintro i e K ⟨hK, ⟨t, g8, ht1⟩, g7, g17⟩
        have hK := hK.symm
        subst hK
        repeat' first | simp (disch := first | omega | assumption | decide) only [go_sem, hm, hz, ht, hr_, g7, g8, g17, wdl, bind_some_, map_some_, oneD_fold] | refine ifP_in (fun _ => ?_) fun _ => ?_
        exact ⟨t, rfl, ht1, _, _, hpair4, hst0.trans hst⟩
    · have hk0 : H1.length ∉ S ++ T := fun hm => by have := hlt _ hm; omega
      have hk0l : H1.length < H2.length := by rw [hH2]; simp
      obtain ⟨hrow0, hk0u⟩ := hst.at_ hk0l hk0
      have hrow : H6[H1.length]? = some (o.b.map byteA) := by rw [hrow0, hH2]; exact get_end_ _
      repeat' first | simp (disch := first | omega | assumption | decide) only [go_sem, hm, hz, ht, hr_, hb2, hb4, hpy, AV.bytes, wdl, bind_some_, map_some_, oneD_fold] | refine ifP_in (fun _ => ?_) fun _ => ?_
      refine rL_loop (σ := Nat) (fun i e K => (∃ t, e 8 = .b t ∧ (Dr.Live s r → t = true)) ∧ e 7 = .mr H1.length 0 o.b.length 1 false ∧ e 17 = .i i ∧ i ≤ o.b.length ∧ K.length = H6.length ∧ (∀ x, x ≠ H1.length → K[x]? = H6[x]?) ∧ ∃ xs : Bs, xs.length = o.b.length ∧ K[H1.length]? = some (xs.map byteA)) (fun i => o.b.length - i) 0 ?_ ?_
      · refine ⟨⟨_, ?_, fun hl => decide_eq_true (hans hl)⟩, ?_, ?_, by omega, rfl, fun _ _ => rfl, _, rfl, hrow⟩
        all_goals first | (simp (disch := first | assumption | omega) only [go_sem]; done) | (simp (disch := first | assumption | omega) only [go_sem]; rfl)
      · rintro i e K ⟨⟨t, g8, ht1⟩, g7, g17, i1, i2, i3, xs, x1, x2⟩
        by_cases hil : i < o.b.length
        · have hxi : xs[i]? = some xs[i] := List.getElem?_eq_getElem (by omega)
          have hwr := wrap_put ((xs[i]'(by omega)).toNat + 1) 0
          simp only [Int.pow_zero, Int.ediv_one, Nat.pow_zero, Nat.div_one] at hwr
          have hby : AV.v (.int .u8 (IntKind.u8.wrap (((xs[i]'(by omega)).toNat : Int) + 1))) = byteA (UInt8.ofNat ((xs[i]'(by omega)).toNat + 1)) := by rw [← hwr]; push_cast; rfl
          generalize xs[i]'(by omega) = v at *
          repeat' first | simp (disch := first | omega | assumption | decide) only [go_sem, hm, hz, ht, hr_, g7, g8, g17, x2, hxi, plainD_map, partD_map] | refine ifP_in (fun _ => ?_) fun _ => ?_
          rw [hby, store_row x2 (by omega), bindP_some]
          have hKl : H1.length < K.length := (List.getElem?_eq_some_iff.1 x2).1
          repeat' first | simp (disch := first | omega | assumption | decide) only [go_sem, hm, hz, ht, hr_, g7, g8, g17] | refine ifP_in (fun _ => ?_) fun _ => ?_
          exact ⟨i + 1, ⟨⟨t, rfl, ht1⟩, rfl, by omega, by simpa using i2, fun x hx => by rw [get_set_ne_ (fun e => hx e.symm)]; exact i3 x hx, xs.set i (UInt8.ofNat (v.toNat + 1)), by simpa using x1, get_set hKl⟩, by omega⟩
        · have : i = o.b.length := by omega
          subst this
          repeat' first | simp (disch := first | omega | assumption | decide) only [go_sem, hm, hz, ht, hr_, g7, g8, g17, wdl, bind_some_, map_some_, oneD_fold] | refine ifP_in (fun _ => ?_) fun _ => ?_
          refine ⟨t, rfl, ht1, _, _, hpair4.same fun x hx => i3 x (fun e => hk0u (by rw [← e]; exact hx)), ?_⟩
          refine (hst0.trans hst).off_ (by omega) fun x hx => i3 x ?_
          rintro rfl; omega
  by_cases c1 : o.kind = 1
  · have eD : doesD s o = (Dk.append s o.name o.b).1 := by simp [doesD, c1]
    have eR : doesR r o = (Dr.append r o.name o.b).1 := by simp [doesR, c1]
    rw [eD, eR]
    rw [c1] at hb2
    repeat' first | simp (disch := first | omega | assumption | decide) only [go_sem, hm, hz, ht, hr_, hb2, hpy, AV.bytes, wdl, bind_some_, map_some_, oneD_fold] | refine ifP_in (fun _ => ?_) fun _ => ?_
    refine rF_use (append_r hpair.hd (Kept.can hk1 hn) o.name o.b (by omega) (by omega) hry hoffS) ?_
    rintro _ H3 ⟨rfl, S3, hd3, hs3⟩
    obtain ⟨hpair3, hst3⟩ := hpair.stepL hs3 hd3
    have hb3 := (hst3.at_ hboxl hboxU).1.trans hb2
    repeat' first | simp (disch := first | omega | assumption | decide) only [go_sem, hm, hz, ht, hr_, hb2, hb3, hpy, AV.bytes, wdl, bind_some_, map_some_, oneD_fold] | refine ifP_in (fun _ => ?_) fun _ => ?_
    refine rF_use (rappend_w hpair3.hr (Kept.can2 hk2 hn') o.name o.b (by omega) (by omega)) ?_
    rintro _ H4 ⟨rfl, T4, hr4, hs4⟩
    obtain ⟨hpair4, hst4⟩ := hpair3.stepR hs4 hr4
    have hst := hst3.trans hst4
    have hb4 := (hst.at_ hboxl hboxU).1.trans hb2
    have hans : Dr.Live s r → (Dk.append s o.name o.b).2 = (Dr.append r o.name o.b).2 := fun hl => (hl.append _ _).2.symm
    repeat' first | simp (disch := first | omega | assumption | decide) only [go_sem, hm, hz, ht, hr_, hb2, hb3, hb4, hpy, AV.bytes, wdl, bind_some_, map_some_, oneD_fold] | refine ifP_in (fun _ => ?_) fun _ => ?_
    have hry4 := hry.step hoff hst
    refine rF_use (lbytes_w o.b o.b hry4 (.inl rfl)) ?_
    rintro _ H6 ⟨rfl, rfl⟩
    rw [decide_eq_true (rfl : o.b = o.b)]
    rcases hyc with ⟨hb0, rfl, hH2⟩ | ⟨rfl, hH2, hbl⟩
    · repeat' first | simp (disch := first | omega | assumption | decide) only [go_sem, hm, hz, ht, hr_, hb2, hb4, hpy, AV.bytes, wdl, bind_some_, map_some_, oneD_fold] | refine ifP_in (fun _ => ?_) fun _ => ?_
      refine rL_loop (σ := Nat) (fun i e K => K = H6 ∧ (∃ t, e 8 = .b t ∧ (Dr.Live s r → t = true)) ∧ e 7 = .sl [] ∧ e 17 = .i 0) (fun i => i) 0 ?_ ?_
      · refine ⟨rfl, ⟨_, ?_, fun hl => decide_eq_true (hans hl)⟩, ?_, ?_⟩
        all_goals first | (simp (disch := first | assumption | omega) only [go_sem]; done) | (simp (disch := first | assumption | omega) only [go_sem]; rfl)
      · rintro i e K ⟨hK, ⟨t, g8, ht1⟩, g7, g17⟩
        have hK := hK.symm
        subst hK
        repeat' first | simp (disch := first | omega | assumption | decide) only [go_sem, hm, hz, ht, hr_, g7, g8, g17, wdl, bind_some_, map_some_, oneD_fold] | refine ifP_in (fun _ => ?_) fun _ => ?_
        exact ⟨t, rfl, ht1, _, _, hpair4, hst0.trans hst⟩
    · have hk0 : H1.length ∉ S ++ T := fun hm => by have := hlt _ hm; omega
      have hk0l : H1.length < H2.length := by rw [hH2]; simp
      obtain ⟨hrow0, hk0u⟩ := hst.at_ hk0l hk0
      have hrow : H6[H1.length]? = some (o.b.map byteA) := by rw [hrow0, hH2]; exact get_end_ _
      repeat' first | simp (disch := first | omega | assumption | decide) only [go_sem, hm, hz, ht, hr_, hb2, hb4, hpy, AV.bytes, wdl, bind_some_, map_some_, oneD_fold] | refine ifP_in (fun _ => ?_) fun _ => ?_
      refine rL_loop (σ := Nat) (fun i e K => (∃ t, e 8 = .b t ∧ (Dr.Live s r → t = true)) ∧ e 7 = .mr H1.length 0 o.b.length 1 false ∧ e 17 = .i i ∧ i ≤ o.b.length ∧ K.length = H6.length ∧ (∀ x, x ≠ H1.length → K[x]? = H6[x]?) ∧ ∃ xs : Bs, xs.length = o.b.length ∧ K[H1.length]? = some (xs.map byteA)) (fun i => o.b.length - i) 0 ?_ ?_
      · refine ⟨⟨_, ?_, fun hl => decide_eq_true (hans hl)⟩, ?_, ?_, by omega, rfl, fun _ _ => rfl, _, rfl, hrow⟩
        all_goals first | (simp (disch := first | assumption | omega) only [go_sem]; done) | (simp (disch := first | assumption | omega) only [go_sem]; rfl)
      · rintro i e K ⟨⟨t, g8, ht1⟩, g7, g17, i1, i2, i3, xs, x1, x2⟩
        by_cases hil : i < o.b.length
        · have hxi : xs[i]? = some xs[i] := List.getElem?_eq_getElem (by omega)
          have hwr := wrap_put ((xs[i]'(by omega)).toNat + 1) 0
          simp only [Int.pow_zero, Int.ediv_one, Nat.pow_zero, Nat.div_one] at hwr
          have hby : AV.v (.int .u8 (IntKind.u8.wrap (((xs[i]'(by omega)).toNat : Int) + 1))) = byteA (UInt8.ofNat ((xs[i]'(by omega)).toNat + 1)) := by rw [← hwr]; push_cast; rfl
          generalize xs[i]'(by omega) = v at *
          repeat' first | simp (disch := first | omega | assumption | decide) only [go_sem, hm, hz, ht, hr_, g7, g8, g17, x2, hxi, plainD_map, partD_map] | refine ifP_in (fun _ => ?_) fun _ => ?_
          rw [hby, store_row x2 (by omega), bindP_some]
          have hKl : H1.length < K.length := (List.getElem?_eq_some_iff.1 x2).1
          repeat' first | simp (disch := first | omega | assumption | decide) only [go_sem, hm, hz, ht, hr_, g7, g8, g17] | refine ifP_in (fun _ => ?_) fun _ => ?_
          exact ⟨i + 1, ⟨⟨t, rfl, ht1⟩, rfl, by omega, by simpa using i2, fun x hx => by rw [get_set_ne_ (fun e => hx e.symm)]; exact i3 x hx, xs.set i (UInt8.ofNat (v.toNat + 1)), by simpa using x1, get_set hKl⟩, by omega⟩
        · have : i = o.b.length := by omega
          subst this
          repeat' first | simp (disch := first | omega | assumption | decide) only [go_sem, hm, hz, ht, hr_, g7, g8, g17, wdl, bind_some_, map_some_, oneD_fold] | refine ifP_in (fun _ => ?_) fun _ => ?_
          refine ⟨t, rfl, ht1, _, _, hpair4.same fun x hx => i3 x (fun e => hk0u (by rw [← e]; exact hx)), ?_⟩
          refine (hst0.trans hst).off_ (by omega) fun x hx => i3 x ?_
          rintro rfl; omega
  by_cases c2 : o.kind = 2
  · have eD : doesD s o = (Dk.rename s o.name o.to).1 := by simp [doesD, c2]
    have eR : doesR r o = (Dr.rename r o.name o.to).1 := by simp [doesR, c2]
    rw [eD, eR]
    rw [c2] at hb2
    repeat' first | simp (disch := first | omega | assumption | decide) only [go_sem, hm, hz, ht, hr_, hb2, hpy, AV.bytes, wdl, bind_some_, map_some_, oneD_fold] | refine ifP_in (fun _ => ?_) fun _ => ?_
    refine rF_use (rename_w hpair.hd (Kept.can hk1 hn) o.name o.to (by omega) (by omega)) ?_
    rintro _ H3 ⟨rfl, S3, hd3, hs3⟩
    obtain ⟨hpair3, hst3⟩ := hpair.stepL hs3 hd3
    have hb3 := (hst3.at_ hboxl hboxU).1.trans hb2
    repeat' first | simp (disch := first | omega | assumption | decide) only [go_sem, hm, hz, ht, hr_, hb2, hb3, hpy, AV.bytes, wdl, bind_some_, map_some_, oneD_fold] | refine ifP_in (fun _ => ?_) fun _ => ?_
    refine rF_use (rrename_w hpair3.hr (Kept.can2 hk2 hn') o.name o.to (by omega) (by omega)) ?_
    rintro _ H4 ⟨rfl, T4, hr4, hs4⟩
    obtain ⟨hpair4, hst4⟩ := hpair3.stepR hs4 hr4
    have hst := hst3.trans hst4
    have hb4 := (hst.at_ hboxl hboxU).1.trans hb2
    have hans : Dr.Live s r → (Dk.rename s o.name o.to).2 = (Dr.rename r o.name o.to).2 := fun hl => (hl.rename _ _).2.symm
    repeat' first | simp (disch := first | omega | assumption | decide) only [go_sem, hm, hz, ht, hr_, hb2, hb3, hb4, hpy, AV.bytes, wdl, bind_some_, map_some_, oneD_fold] | refine ifP_in (fun _ => ?_) fun _ => ?_
    have hry4 := hry.step hoff hst
    refine rF_use (lbytes_w o.b o.b hry4 (.inl rfl)) ?_
    rintro _ H6 ⟨rfl, rfl⟩
    rw [decide_eq_true (rfl : o.b = o.b)]
    rcases hyc with ⟨hb0, rfl, hH2⟩ | ⟨rfl, hH2, hbl⟩
    · repeat' first | simp (disch := first | omega | assumption | decide) only [go_sem, hm, hz, ht, hr_, hb2, hb4, hpy, AV.bytes, wdl, bind_some_, map_some_, oneD_fold] | refine ifP_in (fun _ => ?_) fun _ => ?_
      refine rL_loop (σ := Nat) (fun i e K => K = H6 ∧ (∃ t, e 8 = .b t ∧ (Dr.Live s r → t = true)) ∧ e 7 = .sl [] ∧ e 17 = .i 0) (fun i => i) 0 ?_ ?_
      · refine ⟨rfl, ⟨_, ?_, fun hl => decide_eq_true (hans hl)⟩, ?_, ?_⟩
        all_goals first | (simp (disch := first | assumption | omega) only [go_sem]; done) | (simp (disch := first | assumption | omega) only [go_sem]; rfl)
      · rintro i e K ⟨hK, ⟨t, g8, ht1⟩, g7, g17⟩
        have hK := hK.symm
        subst hK
        repeat' first | simp (disch := first | omega | assumption | decide) only [go_sem, hm, hz, ht, hr_, g7, g8, g17, wdl, bind_some_, map_some_, oneD_fold] | refine ifP_in (fun _ => ?_) fun _ => ?_
        exact ⟨t, rfl, ht1, _, _, hpair4, hst0.trans hst⟩
    · have hk0 : H1.length ∉ S ++ T := fun hm => by have := hlt _ hm; omega
      have hk0l : H1.length < H2.length := by rw [hH2]; simp
      obtain ⟨hrow0, hk0u⟩ := hst.at_ hk0l hk0
      have hrow : H6[H1.length]? = some (o.b.map byteA) := by rw [hrow0, hH2]; exact get_end_ _
      repeat' first | simp (disch := first | omega | assumption | decide) only [go_sem, hm, hz, ht, hr_, hb2, hb4, hpy, AV.bytes, wdl, bind_some_, map_some_, oneD_fold] | refine ifP_in (fun _ => ?_) fun _ => ?_
      refine rL_loop (σ := Nat) (fun i e K => (∃ t, e 8 = .b t ∧ (Dr.Live s r → t = true)) ∧ e 7 = .mr H1.length 0 o.b.length 1 false ∧ e 17 = .i i ∧ i ≤ o.b.length ∧ K.length = H6.length ∧ (∀ x, x ≠ H1.length → K[x]? = H6[x]?) ∧ ∃ xs : Bs, xs.length = o.b.length ∧ K[H1.length]? = some (xs.map byteA)) (fun i => o.b.length - i) 0 ?_ ?_
      · refine ⟨⟨_, ?_, fun hl => decide_eq_true (hans hl)⟩, ?_, ?_, by omega, rfl, fun _ _ => rfl, _, rfl, hrow⟩
        all_goals first | (simp (disch := first | assumption | omega) only [go_sem]; done) | (simp (disch := first | assumption | omega) only [go_sem]; rfl)
      · rintro i e K ⟨⟨t, g8, ht1⟩, g7, g17, i1, i2, i3, xs, x1, x2⟩
        by_cases hil : i < o.b.length
        · have hxi : xs[i]? = some xs[i] := List.getElem?_eq_getElem (by omega)
          have hwr := wrap_put ((xs[i]'(by omega)).toNat + 1) 0
          simp only [Int.pow_zero, Int.ediv_one, Nat.pow_zero, Nat.div_one] at hwr
          have hby : AV.v (.int .u8 (IntKind.u8.wrap (((xs[i]'(by omega)).toNat : Int) + 1))) = byteA (UInt8.ofNat ((xs[i]'(by omega)).toNat + 1)) := by rw [← hwr]; push_cast; rfl
          generalize xs[i]'(by omega) = v at *
          repeat' first | simp (disch := first | omega | assumption | decide) only [go_sem, hm, hz, ht, hr_, g7, g8, g17, x2, hxi, plainD_map, partD_map] | refine ifP_in (fun _ => ?_) fun _ => ?_
          rw [hby, store_row x2 (by omega), bindP_some]
          have hKl : H1.length < K.length := (List.getElem?_eq_some_iff.1 x2).1
          repeat' first | simp (disch := first | omega | assumption | decide) only [go_sem, hm, hz, ht, hr_, g7, g8, g17] | refine ifP_in (fun _ => ?_) fun _ => ?_
          exact ⟨i + 1, ⟨⟨t, rfl, ht1⟩, rfl, by omega, by simpa using i2, fun x hx => by rw [get_set_ne_ (fun e => hx e.symm)]; exact i3 x hx, xs.set i (UInt8.ofNat (v.toNat + 1)), by simpa using x1, get_set hKl⟩, by omega⟩
        · have : i = o.b.length := by omega
          subst this
          repeat' first | simp (disch := first | omega | assumption | decide) only [go_sem, hm, hz, ht, hr_, g7, g8, g17, wdl, bind_some_, map_some_, oneD_fold] | refine ifP_in (fun _ => ?_) fun _ => ?_
          refine ⟨t, rfl, ht1, _, _, hpair4.same fun x hx => i3 x (fun e => hk0u (by rw [← e]; exact hx)), ?_⟩
          refine (hst0.trans hst).off_ (by omega) fun x hx => i3 x ?_
          rintro rfl; omega
  by_cases c3 : o.kind = 3
  · have eD : doesD s o = (Dk.delete s o.name).1 := by simp [doesD, c3]
    have eR : doesR r o = (Dr.delete r o.name).1 := by simp [doesR, c3]
    rw [eD, eR]
    rw [c3] at hb2
    repeat' first | simp (disch := first | omega | assumption | decide) only [go_sem, hm, hz, ht, hr_, hb2, hpy, AV.bytes, wdl, bind_some_, map_some_, oneD_fold] | refine ifP_in (fun _ => ?_) fun _ => ?_
    refine rF_use (delete_w hpair.hd (Kept.can hk1 hn) o.name (by omega)) ?_
    rintro _ H3 ⟨rfl, S3, hd3, hs3⟩
    obtain ⟨hpair3, hst3⟩ := hpair.stepL hs3 hd3
    have hb3 := (hst3.at_ hboxl hboxU).1.trans hb2
    repeat' first | simp (disch := first | omega | assumption | decide) only [go_sem, hm, hz, ht, hr_, hb2, hb3, hpy, AV.bytes, wdl, bind_some_, map_some_, oneD_fold] | refine ifP_in (fun _ => ?_) fun _ => ?_
    refine rF_use (rdelete_w hpair3.hr (Kept.can2 hk2 hn') o.name (by omega)) ?_
    rintro _ H4 ⟨rfl, T4, hr4, hs4⟩
    obtain ⟨hpair4, hst4⟩ := hpair3.stepR hs4 hr4
    have hst := hst3.trans hst4
    have hb4 := (hst.at_ hboxl hboxU).1.trans hb2
    have hans : Dr.Live s r → (Dk.delete s o.name).2 = (Dr.delete r o.name).2 := fun hl => (hl.delete _).2.symm
    repeat' first | simp (disch := first | omega | assumption | decide) only [go_sem, hm, hz, ht, hr_, hb2, hb3, hb4, hpy, AV.bytes, wdl, bind_some_, map_some_, oneD_fold] | refine ifP_in (fun _ => ?_) fun _ => ?_
    have hry4 := hry.step hoff hst
    refine rF_use (lbytes_w o.b o.b hry4 (.inl rfl)) ?_
    rintro _ H6 ⟨rfl, rfl⟩
    rw [decide_eq_true (rfl : o.b = o.b)]
    rcases hyc with ⟨hb0, rfl, hH2⟩ | ⟨rfl, hH2, hbl⟩
    · repeat' first | simp (disch := first | omega | assumption | decide) only [go_sem, hm, hz, ht, hr_, hb2, hb4, hpy, AV.bytes, wdl, bind_some_, map_some_, oneD_fold] | refine ifP_in (fun _ => ?_) fun _ => ?_
      refine rL_loop (σ := Nat) (fun i e K => K = H6 ∧ (∃ t, e 8 = .b t ∧ (Dr.Live s r → t = true)) ∧ e 7 = .sl [] ∧ e 17 = .i 0) (fun i => i) 0 ?_ ?_
      · refine ⟨rfl, ⟨_, ?_, fun hl => decide_eq_true (hans hl)⟩, ?_, ?_⟩
        all_goals first | (simp (disch := first | assumption | omega) only [go_sem]; done) | (simp (disch := first | assumption | omega) only [go_sem]; rfl)
      · rintro i e K ⟨hK, ⟨t, g8, ht1⟩, g7, g17⟩
        have hK := hK.symm
        subst hK
        repeat' first | simp (disch := first | omega | assumption | decide) only [go_sem, hm, hz, ht, hr_, g7, g8, g17, wdl, bind_some_, map_some_, oneD_fold] | refine ifP_in (fun _ => ?_) fun _ => ?_
        exact ⟨t, rfl, ht1, _, _, hpair4, hst0.trans hst⟩
    · have hk0 : H1.length ∉ S ++ T := fun hm => by have := hlt _ hm; omega
      have hk0l : H1.length < H2.length := by rw [hH2]; simp
      obtain ⟨hrow0, hk0u⟩ := hst.at_ hk0l hk0
      have hrow : H6[H1.length]? = some (o.b.map byteA) := by rw [hrow0, hH2]; exact get_end_ _
      repeat' first | simp (disch := first | omega | assumption | decide) only [go_sem, hm, hz, ht, hr_, hb2, hb4, hpy, AV.bytes, wdl, bind_some_, map_some_, oneD_fold] | refine ifP_in (fun _ => ?_) fun _ => ?_
      refine rL_loop (σ := Nat) (fun i e K => (∃ t, e 8 = .b t ∧ (Dr.Live s r → t = true)) ∧ e 7 = .mr H1.length 0 o.b.length 1 false ∧ e 17 = .i i ∧ i ≤ o.b.length ∧ K.length = H6.length ∧ (∀ x, x ≠ H1.length → K[x]? = H6[x]?) ∧ ∃ xs : Bs, xs.length = o.b.length ∧ K[H1.length]? = some (xs.map byteA)) (fun i => o.b.length - i) 0 ?_ ?_
      · refine ⟨⟨_, ?_, fun hl => decide_eq_true (hans hl)⟩, ?_, ?_, by omega, rfl, fun _ _ => rfl, _, rfl, hrow⟩
        all_goals first | (simp (disch := first | assumption | omega) only [go_sem]; done) | (simp (disch := first | assumption | omega) only [go_sem]; rfl)
      · rintro i e K ⟨⟨t, g8, ht1⟩, g7, g17, i1, i2, i3, xs, x1, x2⟩
        by_cases hil : i < o.b.length
        · have hxi : xs[i]? = some xs[i] := List.getElem?_eq_getElem (by omega)
          have hwr := wrap_put ((xs[i]'(by omega)).toNat + 1) 0
          simp only [Int.pow_zero, Int.ediv_one, Nat.pow_zero, Nat.div_one] at hwr
          have hby : AV.v (.int .u8 (IntKind.u8.wrap (((xs[i]'(by omega)).toNat : Int) + 1))) = byteA (UInt8.ofNat ((xs[i]'(by omega)).toNat + 1)) := by rw [← hwr]; push_cast; rfl
          generalize xs[i]'(by omega) = v at *
          repeat' first | simp (disch := first | omega | assumption | decide) only [go_sem, hm, hz, ht, hr_, g7, g8, g17, x2, hxi, plainD_map, partD_map] | refine ifP_in (fun _ => ?_) fun _ => ?_
          rw [hby, store_row x2 (by omega), bindP_some]
          have hKl : H1.length < K.length := (List.getElem?_eq_some_iff.1 x2).1
          repeat' first | simp (disch := first | omega | assumption | decide) only [go_sem, hm, hz, ht, hr_, g7, g8, g17] | refine ifP_in (fun _ => ?_) fun _ => ?_
          exact ⟨i + 1, ⟨⟨t, rfl, ht1⟩, rfl, by omega, by simpa using i2, fun x hx => by rw [get_set_ne_ (fun e => hx e.symm)]; exact i3 x hx, xs.set i (UInt8.ofNat (v.toNat + 1)), by simpa using x1, get_set hKl⟩, by omega⟩
        · have : i = o.b.length := by omega
          subst this
          repeat' first | simp (disch := first | omega | assumption | decide) only [go_sem, hm, hz, ht, hr_, g7, g8, g17, wdl, bind_some_, map_some_, oneD_fold] | refine ifP_in (fun _ => ?_) fun _ => ?_
          refine ⟨t, rfl, ht1, _, _, hpair4.same fun x hx => i3 x (fun e => hk0u (by rw [← e]; exact hx)), ?_⟩
          refine (hst0.trans hst).off_ (by omega) fun x hx => i3 x ?_
          rintro rfl; omega
  by_cases c4 : o.kind = 4
  · have eD : doesD s o = (Dk.sync s).1 := by simp [doesD, c4]
    have eR : doesR r o = (Dr.sync r).1 := by simp [doesR, c4]
    rw [eD, eR]
    rw [c4] at hb2
    repeat' first | simp (disch := first | omega | assumption | decide) only [go_sem, hm, hz, ht, hr_, hb2, hpy, AV.bytes, wdl, bind_some_, map_some_, oneD_fold] | refine ifP_in (fun _ => ?_) fun _ => ?_
    refine rF_use (sync_w hpair.hd (Kept.can hk1 hn)) ?_
    rintro _ H3 ⟨rfl, S3, hd3, hs3⟩
    obtain ⟨hpair3, hst3⟩ := hpair.stepL hs3 hd3
    have hb3 := (hst3.at_ hboxl hboxU).1.trans hb2
    repeat' first | simp (disch := first | omega | assumption | decide) only [go_sem, hm, hz, ht, hr_, hb2, hb3, hpy, AV.bytes, wdl, bind_some_, map_some_, oneD_fold] | refine ifP_in (fun _ => ?_) fun _ => ?_
    refine rF_use (rsync_w hpair3.hr (Kept.can2 hk2 hn')) ?_
    rintro _ H4 ⟨rfl, T4, hr4, hs4⟩
    obtain ⟨hpair4, hst4⟩ := hpair3.stepR hs4 hr4
    have hst := hst3.trans hst4
    have hb4 := (hst.at_ hboxl hboxU).1.trans hb2
    have hans : Dr.Live s r → (Dk.sync s).2 = (Dr.sync r).2 := fun hl => hl.sync.2.symm
    repeat' first | simp (disch := first | omega | assumption | decide) only [go_sem, hm, hz, ht, hr_, hb2, hb3, hb4, hpy, AV.bytes, wdl, bind_some_, map_some_, oneD_fold] | refine ifP_in (fun _ => ?_) fun _ => ?_
    have hry4 := hry.step hoff hst
    refine rF_use (lbytes_w o.b o.b hry4 (.inl rfl)) ?_
    rintro _ H6 ⟨rfl, rfl⟩
    rw [decide_eq_true (rfl : o.b = o.b)]
    rcases hyc with ⟨hb0, rfl, hH2⟩ | ⟨rfl, hH2, hbl⟩
    · repeat' first | simp (disch := first | omega | assumption | decide) only [go_sem, hm, hz, ht, hr_, hb2, hb4, hpy, AV.bytes, wdl, bind_some_, map_some_, oneD_fold] | refine ifP_in (fun _ => ?_) fun _ => ?_
      refine rL_loop (σ := Nat) (fun i e K => K = H6 ∧ (∃ t, e 8 = .b t ∧ (Dr.Live s r → t = true)) ∧ e 7 = .sl [] ∧ e 17 = .i 0) (fun i => i) 0 ?_ ?_
      · refine ⟨rfl, ⟨_, ?_, fun hl => decide_eq_true (hans hl)⟩, ?_, ?_⟩
        all_goals first | (simp (disch := first | assumption | omega) only [go_sem]; done) | (simp (disch := first | assumption | omega) only [go_sem]; rfl)
      · rintro i e K ⟨hK, ⟨t, g8, ht1⟩, g7, g17⟩
        have hK := hK.symm
        subst hK
        repeat' first | simp (disch := first | omega | assumption | decide) only [go_sem, hm, hz, ht, hr_, g7, g8, g17, wdl, bind_some_, map_some_, oneD_fold] | refine ifP_in (fun _ => ?_) fun _ => ?_
        exact ⟨t, rfl, ht1, _, _, hpair4, hst0.trans hst⟩
    · have hk0 : H1.length ∉ S ++ T := fun hm => by have := hlt _ hm; omega
      have hk0l : H1.length < H2.length := by rw [hH2]; simp
      obtain ⟨hrow0, hk0u⟩ := hst.at_ hk0l hk0
      have hrow : H6[H1.length]? = some (o.b.map byteA) := by rw [hrow0, hH2]; exact get_end_ _
      repeat' first | simp (disch := first | omega | assumption | decide) only [go_sem, hm, hz, ht, hr_, hb2, hb4, hpy, AV.bytes, wdl, bind_some_, map_some_, oneD_fold] | refine ifP_in (fun _ => ?_) fun _ => ?_
      refine rL_loop (σ := Nat) (fun i e K => (∃ t, e 8 = .b t ∧ (Dr.Live s r → t = true)) ∧ e 7 = .mr H1.length 0 o.b.length 1 false ∧ e 17 = .i i ∧ i ≤ o.b.length ∧ K.length = H6.length ∧ (∀ x, x ≠ H1.length → K[x]? = H6[x]?) ∧ ∃ xs : Bs, xs.length = o.b.length ∧ K[H1.length]? = some (xs.map byteA)) (fun i => o.b.length - i) 0 ?_ ?_
      · refine ⟨⟨_, ?_, fun hl => decide_eq_true (hans hl)⟩, ?_, ?_, by omega, rfl, fun _ _ => rfl, _, rfl, hrow⟩
        all_goals first | (simp (disch := first | assumption | omega) only [go_sem]; done) | (simp (disch := first | assumption | omega) only [go_sem]; rfl)
      · rintro i e K ⟨⟨t, g8, ht1⟩, g7, g17, i1, i2, i3, xs, x1, x2⟩
        by_cases hil : i < o.b.length
        · have hxi : xs[i]? = some xs[i] := List.getElem?_eq_getElem (by omega)
          have hwr := wrap_put ((xs[i]'(by omega)).toNat + 1) 0
          simp only [Int.pow_zero, Int.ediv_one, Nat.pow_zero, Nat.div_one] at hwr
          have hby : AV.v (.int .u8 (IntKind.u8.wrap (((xs[i]'(by omega)).toNat : Int) + 1))) = byteA (UInt8.ofNat ((xs[i]'(by omega)).toNat + 1)) := by rw [← hwr]; push_cast; rfl
          generalize xs[i]'(by omega) = v at *
          repeat' first | simp (disch := first | omega | assumption | decide) only [go_sem, hm, hz, ht, hr_, g7, g8, g17, x2, hxi, plainD_map, partD_map] | refine ifP_in (fun _ => ?_) fun _ => ?_
          rw [hby, store_row x2 (by omega), bindP_some]
          have hKl : H1.length < K.length := (List.getElem?_eq_some_iff.1 x2).1
          repeat' first | simp (disch := first | omega | assumption | decide) only [go_sem, hm, hz, ht, hr_, g7, g8, g17] | refine ifP_in (fun _ => ?_) fun _ => ?_
          exact ⟨i + 1, ⟨⟨t, rfl, ht1⟩, rfl, by omega, by simpa using i2, fun x hx => by rw [get_set_ne_ (fun e => hx e.symm)]; exact i3 x hx, xs.set i (UInt8.ofNat (v.toNat + 1)), by simpa using x1, get_set hKl⟩, by omega⟩
        · have : i = o.b.length := by omega
          subst this
          repeat' first | simp (disch := first | omega | assumption | decide) only [go_sem, hm, hz, ht, hr_, g7, g8, g17, wdl, bind_some_, map_some_, oneD_fold] | refine ifP_in (fun _ => ?_) fun _ => ?_
          refine ⟨t, rfl, ht1, _, _, hpair4.same fun x hx => i3 x (fun e => hk0u (by rw [← e]; exact hx)), ?_⟩
          refine (hst0.trans hst).off_ (by omega) fun x hx => i3 x ?_
          rintro rfl; omega
  by_cases c5 : o.kind = 5
  · have eD : doesD s o = (Dk.read s o.name).1 := by simp [doesD, c5]
    have eR : doesR r o = (Dr.read r o.name).1 := by simp [doesR, c5]
    rw [eD, eR]
    rw [c5] at hb2
    repeat' first | simp (disch := first | omega | assumption | decide) only [go_sem, hm, hz, ht, hr_, hb2, hpy, AV.bytes, wdl, bind_some_, map_some_, oneD_fold] | refine ifP_in (fun _ => ?_) fun _ => ?_
    refine rF_use (read_w hpair.hd (Kept.can hk1 hn) o.name (by omega)) ?_
    rintro _ H3 ⟨rfl, S3, hd3, hs3⟩
    obtain ⟨hpair3, hst3⟩ := hpair.stepL hs3 hd3
    have hb3 := (hst3.at_ hboxl hboxU).1.trans hb2
    repeat' first | simp (disch := first | omega | assumption | decide) only [go_sem, hm, hz, ht, hr_, hb2, hb3, hpy, AV.bytes, wdl, bind_some_, map_some_, oneD_fold] | refine ifP_in (fun _ => ?_) fun _ => ?_
    refine rF_use (rread_w hpair3.hr (Kept.can2 hk2 hn') o.name (by omega)) ?_
    rintro _ H4 ⟨rfl, T4, hr4, hs4⟩
    obtain ⟨hpair4, hst4⟩ := hpair3.stepR hs4 hr4
    have hst := hst3.trans hst4
    have hb4 := (hst.at_ hboxl hboxU).1.trans hb2
    repeat' first | simp (disch := first | omega | assumption | decide) only [go_sem, hm, hz, ht, hr_, hb2, hb3, hb4, hpy, AV.bytes, wdl, bind_some_, map_some_, oneD_fold] | refine ifP_in (fun _ => ?_) fun _ => ?_
    refine rF_use (lbytes_w (Dk.read s o.name).2.1 (Dr.read r o.name).2.1 (.inl rfl) (.inl rfl)) ?_
    rintro _ H5 ⟨rfl, rfl⟩
    by_cases hE : (Dk.read s o.name).2.1 = (Dr.read r o.name).2.1
    · rw [decide_eq_true hE]
      have hans : Dr.Live s r → (Dk.read s o.name).2.2 = (Dr.read r o.name).2.2 := fun hl => congrArg Prod.snd (hl.read _).2.symm
      repeat' first | simp (disch := first | omega | assumption | decide) only [go_sem, hm, hz, ht, hr_, hb2, hb3, hb4, hpy, AV.bytes, wdl, bind_some_, map_some_, oneD_fold] | refine ifP_in (fun _ => ?_) fun _ => ?_
      have hry4 := hry.step hoff hst
      refine rF_use (lbytes_w o.b o.b hry4 (.inl rfl)) ?_
      rintro _ H6 ⟨rfl, rfl⟩
      rw [decide_eq_true (rfl : o.b = o.b)]
      rcases hyc with ⟨hb0, rfl, hH2⟩ | ⟨rfl, hH2, hbl⟩
      · repeat' first | simp (disch := first | omega | assumption | decide) only [go_sem, hm, hz, ht, hr_, hb2, hb4, hpy, AV.bytes, wdl, bind_some_, map_some_, oneD_fold] | refine ifP_in (fun _ => ?_) fun _ => ?_
        refine rL_loop (σ := Nat) (fun i e K => K = H6 ∧ (∃ t, e 8 = .b t ∧ (Dr.Live s r → t = true)) ∧ e 7 = .sl [] ∧ e 17 = .i 0) (fun i => i) 0 ?_ ?_
        · refine ⟨rfl, ⟨_, ?_, fun hl => decide_eq_true (hans hl)⟩, ?_, ?_⟩
          all_goals first | (simp (disch := first | assumption | omega) only [go_sem]; done) | (simp (disch := first | assumption | omega) only [go_sem]; rfl)
        · rintro i e K ⟨hK, ⟨t, g8, ht1⟩, g7, g17⟩
          have hK := hK.symm
          subst hK
          repeat' first | simp (disch := first | omega | assumption | decide) only [go_sem, hm, hz, ht, hr_, g7, g8, g17, wdl, bind_some_, map_some_, oneD_fold] | refine ifP_in (fun _ => ?_) fun _ => ?_
          exact ⟨t, rfl, ht1, _, _, hpair4, hst0.trans hst⟩
      · have hk0 : H1.length ∉ S ++ T := fun hm => by have := hlt _ hm; omega
        have hk0l : H1.length < H2.length := by rw [hH2]; simp
        obtain ⟨hrow0, hk0u⟩ := hst.at_ hk0l hk0
        have hrow : H6[H1.length]? = some (o.b.map byteA) := by rw [hrow0, hH2]; exact get_end_ _
        repeat' first | simp (disch := first | omega | assumption | decide) only [go_sem, hm, hz, ht, hr_, hb2, hb4, hpy, AV.bytes, wdl, bind_some_, map_some_, oneD_fold] | refine ifP_in (fun _ => ?_) fun _ => ?_
        refine rL_loop (σ := Nat) (fun i e K => (∃ t, e 8 = .b t ∧ (Dr.Live s r → t = true)) ∧ e 7 = .mr H1.length 0 o.b.length 1 false ∧ e 17 = .i i ∧ i ≤ o.b.length ∧ K.length = H6.length ∧ (∀ x, x ≠ H1.length → K[x]? = H6[x]?) ∧ ∃ xs : Bs, xs.length = o.b.length ∧ K[H1.length]? = some (xs.map byteA)) (fun i => o.b.length - i) 0 ?_ ?_
        · refine ⟨⟨_, ?_, fun hl => decide_eq_true (hans hl)⟩, ?_, ?_, by omega, rfl, fun _ _ => rfl, _, rfl, hrow⟩
          all_goals first | (simp (disch := first | assumption | omega) only [go_sem]; done) | (simp (disch := first | assumption | omega) only [go_sem]; rfl)
        · rintro i e K ⟨⟨t, g8, ht1⟩, g7, g17, i1, i2, i3, xs, x1, x2⟩
          by_cases hil : i < o.b.length
          · have hxi : xs[i]? = some xs[i] := List.getElem?_eq_getElem (by omega)
            have hwr := wrap_put ((xs[i]'(by omega)).toNat + 1) 0
            simp only [Int.pow_zero, Int.ediv_one, Nat.pow_zero, Nat.div_one] at hwr
            have hby : AV.v (.int .u8 (IntKind.u8.wrap (((xs[i]'(by omega)).toNat : Int) + 1))) = byteA (UInt8.ofNat ((xs[i]'(by omega)).toNat + 1)) := by rw [← hwr]; push_cast; rfl
            generalize xs[i]'(by omega) = v at *
            repeat' first | simp (disch := first | omega | assumption | decide) only [go_sem, hm, hz, ht, hr_, g7, g8, g17, x2, hxi, plainD_map, partD_map] | refine ifP_in (fun _ => ?_) fun _ => ?_
            rw [hby, store_row x2 (by omega), bindP_some]
            have hKl : H1.length < K.length := (List.getElem?_eq_some_iff.1 x2).1
            repeat' first | simp (disch := first | omega | assumption | decide) only [go_sem, hm, hz, ht, hr_, g7, g8, g17] | refine ifP_in (fun _ => ?_) fun _ => ?_
            exact ⟨i + 1, ⟨⟨t, rfl, ht1⟩, rfl, by omega, by simpa using i2, fun x hx => by rw [get_set_ne_ (fun e => hx e.symm)]; exact i3 x hx, xs.set i (UInt8.ofNat (v.toNat + 1)), by simpa using x1, get_set hKl⟩, by omega⟩
          · have : i = o.b.length := by omega
            subst this
            repeat' first | simp (disch := first | omega | assumption | decide) only [go_sem, hm, hz, ht, hr_, g7, g8, g17, wdl, bind_some_, map_some_, oneD_fold] | refine ifP_in (fun _ => ?_) fun _ => ?_
            refine ⟨t, rfl, ht1, _, _, hpair4.same fun x hx => i3 x (fun e => hk0u (by rw [← e]; exact hx)), ?_⟩
            refine (hst0.trans hst).off_ (by omega) fun x hx => i3 x ?_
            rintro rfl; omega
    · have hans : Dr.Live s r → False := fun hl => hE (congrArg Prod.fst (hl.read _).2.symm)
      rw [decide_eq_false hE]
      repeat' first | simp (disch := first | omega | assumption | decide) only [go_sem, hm, hz, ht, hr_, hb2, hb3, hb4, hpy, AV.bytes, wdl, bind_some_, map_some_, oneD_fold] | refine ifP_in (fun _ => ?_) fun _ => ?_
      have hry4 := hry.step hoff hst
      refine rF_use (lbytes_w o.b o.b hry4 (.inl rfl)) ?_
      rintro _ H6 ⟨rfl, rfl⟩
      rw [decide_eq_true (rfl : o.b = o.b)]
      rcases hyc with ⟨hb0, rfl, hH2⟩ | ⟨rfl, hH2, hbl⟩
      · repeat' first | simp (disch := first | omega | assumption | decide) only [go_sem, hm, hz, ht, hr_, hb2, hb4, hpy, AV.bytes, wdl, bind_some_, map_some_, oneD_fold] | refine ifP_in (fun _ => ?_) fun _ => ?_
        refine rL_loop (σ := Nat) (fun i e K => K = H6 ∧ (∃ t, e 8 = .b t ∧ (Dr.Live s r → t = true)) ∧ e 7 = .sl [] ∧ e 17 = .i 0) (fun i => i) 0 ?_ ?_
        · refine ⟨rfl, ⟨false, ?_, fun hl => (hans hl).elim⟩, ?_, ?_⟩
          all_goals first | (simp (disch := first | assumption | omega) only [go_sem]; done) | (simp (disch := first | assumption | omega) only [go_sem]; rfl)
        · rintro i e K ⟨hK, ⟨t, g8, ht1⟩, g7, g17⟩
          have hK := hK.symm
          subst hK
          repeat' first | simp (disch := first | omega | assumption | decide) only [go_sem, hm, hz, ht, hr_, g7, g8, g17, wdl, bind_some_, map_some_, oneD_fold] | refine ifP_in (fun _ => ?_) fun _ => ?_
          exact ⟨t, rfl, ht1, _, _, hpair4, hst0.trans hst⟩
      · have hk0 : H1.length ∉ S ++ T := fun hm => by have := hlt _ hm; omega
        have hk0l : H1.length < H2.length := by rw [hH2]; simp
        obtain ⟨hrow0, hk0u⟩ := hst.at_ hk0l hk0
        have hrow : H6[H1.length]? = some (o.b.map byteA) := by rw [hrow0, hH2]; exact get_end_ _
        repeat' first | simp (disch := first | omega | assumption | decide) only [go_sem, hm, hz, ht, hr_, hb2, hb4, hpy, AV.bytes, wdl, bind_some_, map_some_, oneD_fold] | refine ifP_in (fun _ => ?_) fun _ => ?_
        refine rL_loop (σ := Nat) (fun i e K => (∃ t, e 8 = .b t ∧ (Dr.Live s r → t = true)) ∧ e 7 = .mr H1.length 0 o.b.length 1 false ∧ e 17 = .i i ∧ i ≤ o.b.length ∧ K.length = H6.length ∧ (∀ x, x ≠ H1.length → K[x]? = H6[x]?) ∧ ∃ xs : Bs, xs.length = o.b.length ∧ K[H1.length]? = some (xs.map byteA)) (fun i => o.b.length - i) 0 ?_ ?_
        · refine ⟨⟨false, ?_, fun hl => (hans hl).elim⟩, ?_, ?_, by omega, rfl, fun _ _ => rfl, _, rfl, hrow⟩
          all_goals first | (simp (disch := first | assumption | omega) only [go_sem]; done) | (simp (disch := first | assumption | omega) only [go_sem]; rfl)
        · rintro i e K ⟨⟨t, g8, ht1⟩, g7, g17, i1, i2, i3, xs, x1, x2⟩
          by_cases hil : i < o.b.length
          · have hxi : xs[i]? = some xs[i] := List.getElem?_eq_getElem (by omega)
            have hwr := wrap_put ((xs[i]'(by omega)).toNat + 1) 0
            simp only [Int.pow_zero, Int.ediv_one, Nat.pow_zero, Nat.div_one] at hwr
            have hby : AV.v (.int .u8 (IntKind.u8.wrap (((xs[i]'(by omega)).toNat : Int) + 1))) = byteA (UInt8.ofNat ((xs[i]'(by omega)).toNat + 1)) := by rw [← hwr]; push_cast; rfl
            generalize xs[i]'(by omega) = v at *
            repeat' first | simp (disch := first | omega | assumption | decide) only [go_sem, hm, hz, ht, hr_, g7, g8, g17, x2, hxi, plainD_map, partD_map] | refine ifP_in (fun _ => ?_) fun _ => ?_
            rw [hby, store_row x2 (by omega), bindP_some]
            have hKl : H1.length < K.length := (List.getElem?_eq_some_iff.1 x2).1
            repeat' first | simp (disch := first | omega | assumption | decide) only [go_sem, hm, hz, ht, hr_, g7, g8, g17] | refine ifP_in (fun _ => ?_) fun _ => ?_
            exact ⟨i + 1, ⟨⟨t, rfl, ht1⟩, rfl, by omega, by simpa using i2, fun x hx => by rw [get_set_ne_ (fun e => hx e.symm)]; exact i3 x hx, xs.set i (UInt8.ofNat (v.toNat + 1)), by simpa using x1, get_set hKl⟩, by omega⟩
          · have : i = o.b.length := by omega
            subst this
            repeat' first | simp (disch := first | omega | assumption | decide) only [go_sem, hm, hz, ht, hr_, g7, g8, g17, wdl, bind_some_, map_some_, oneD_fold] | refine ifP_in (fun _ => ?_) fun _ => ?_
            refine ⟨t, rfl, ht1, _, _, hpair4.same fun x hx => i3 x (fun e => hk0u (by rw [← e]; exact hx)), ?_⟩
            refine (hst0.trans hst).off_ (by omega) fun x hx => i3 x ?_
            rintro rfl; omega
  by_cases c6 : o.kind = 6
  · have eD : doesD s o = (dlist s).1 := by rw [dlist_fst]; simp [doesD, c6]
    have eR : doesR r o = (Dr.list r).1 := by simp [doesR, c6]
    rw [eD, eR]
    rw [c6] at hb2
    repeat' first | simp (disch := first | omega | assumption | decide) only [go_sem, hm, hz, ht, hr_, hb2, hpy, AV.bytes, wdl, bind_some_, map_some_, oneD_fold] | refine ifP_in (fun _ => ?_) fun _ => ?_
    refine rF_use (list_w hpair.hd (Kept.can hk1 hn) (Kept.evLen hk1 hn)) ?_
    rintro _ H3 ⟨rfl, S3, hd3, hs3⟩
    obtain ⟨hpair3, hst3⟩ := hpair.stepL hs3 hd3
    have hb3 := (hst3.at_ hboxl hboxU).1.trans hb2
    repeat' first | simp (disch := first | omega | assumption | decide) only [go_sem, hm, hz, ht, hr_, hb2, hb3, hpy, AV.bytes, wdl, bind_some_, map_some_, oneD_fold] | refine ifP_in (fun _ => ?_) fun _ => ?_
    refine rF_use (rlist_w hpair3.hr (Kept.can2 hk2 hn')) ?_
    rintro _ H4 ⟨rfl, T4, hr4, hs4⟩
    obtain ⟨hpair4, hst4⟩ := hpair3.stepR hs4 hr4
    have hst := hst3.trans hst4
    have hb4 := (hst.at_ hboxl hboxU).1.trans hb2
    repeat' first | simp (disch := first | omega | assumption | decide) only [go_sem, hm, hz, ht, hr_, hb2, hb3, hb4, hpy, AV.bytes, wdl, bind_some_, map_some_, oneD_fold] | refine ifP_in (fun _ => ?_) fun _ => ?_
    refine rF_use (texts_w (dlist s).2.1 (Dr.list r).2.1 (dlist_len hk1 hn) (rlist_len hk2 hn')) ?_
    rintro _ H5 ⟨rfl, rfl⟩
    by_cases hE : (dlist s).2.1 = (Dr.list r).2.1
    · rw [decide_eq_true hE]
      have hans : Dr.Live s r → (dlist s).2.2 = (Dr.list r).2.2 := fun hl => congrArg Prod.snd (dlist_eq hl)
      repeat' first | simp (disch := first | omega | assumption | decide) only [go_sem, hm, hz, ht, hr_, hb2, hb3, hb4, hpy, AV.bytes, wdl, bind_some_, map_some_, oneD_fold] | refine ifP_in (fun _ => ?_) fun _ => ?_
      have hry4 := hry.step hoff hst
      refine rF_use (lbytes_w o.b o.b hry4 (.inl rfl)) ?_
      rintro _ H6 ⟨rfl, rfl⟩
      rw [decide_eq_true (rfl : o.b = o.b)]
      rcases hyc with ⟨hb0, rfl, hH2⟩ | ⟨rfl, hH2, hbl⟩
      · repeat' first | simp (disch := first | omega | assumption | decide) only [go_sem, hm, hz, ht, hr_, hb2, hb4, hpy, AV.bytes, wdl, bind_some_, map_some_, oneD_fold] | refine ifP_in (fun _ => ?_) fun _ => ?_
        refine rL_loop (σ := Nat) (fun i e K => K = H6 ∧ (∃ t, e 8 = .b t ∧ (Dr.Live s r → t = true)) ∧ e 7 = .sl [] ∧ e 17 = .i 0) (fun i => i) 0 ?_ ?_
        · refine ⟨rfl, ⟨_, ?_, fun hl => decide_eq_true (hans hl)⟩, ?_, ?_⟩
          all_goals first | (simp (disch := first | assumption | omega) only [go_sem]; done) | (simp (disch := first | assumption | omega) only [go_sem]; rfl)
        · rintro i e K ⟨hK, ⟨t, g8, ht1⟩, g7, g17⟩
          have hK := hK.symm
          subst hK
          repeat' first | simp (disch := first | omega | assumption | decide) only [go_sem, hm, hz, ht, hr_, g7, g8, g17, wdl, bind_some_, map_some_, oneD_fold] | refine ifP_in (fun _ => ?_) fun _ => ?_
          exact ⟨t, rfl, ht1, _, _, hpair4, hst0.trans hst⟩
      · have hk0 : H1.length ∉ S ++ T := fun hm => by have := hlt _ hm; omega
        have hk0l : H1.length < H2.length := by rw [hH2]; simp
        obtain ⟨hrow0, hk0u⟩ := hst.at_ hk0l hk0
        have hrow : H6[H1.length]? = some (o.b.map byteA) := by rw [hrow0, hH2]; exact get_end_ _
        repeat' first | simp (disch := first | omega | assumption | decide) only [go_sem, hm, hz, ht, hr_, hb2, hb4, hpy, AV.bytes, wdl, bind_some_, map_some_, oneD_fold] | refine ifP_in (fun _ => ?_) fun _ => ?_
        refine rL_loop (σ := Nat) (fun i e K => (∃ t, e 8 = .b t ∧ (Dr.Live s r → t = true)) ∧ e 7 = .mr H1.length 0 o.b.length 1 false ∧ e 17 = .i i ∧ i ≤ o.b.length ∧ K.length = H6.length ∧ (∀ x, x ≠ H1.length → K[x]? = H6[x]?) ∧ ∃ xs : Bs, xs.length = o.b.length ∧ K[H1.length]? = some (xs.map byteA)) (fun i => o.b.length - i) 0 ?_ ?_
        · refine ⟨⟨_, ?_, fun hl => decide_eq_true (hans hl)⟩, ?_, ?_, by omega, rfl, fun _ _ => rfl, _, rfl, hrow⟩
          all_goals first | (simp (disch := first | assumption | omega) only [go_sem]; done) | (simp (disch := first | assumption | omega) only [go_sem]; rfl)
        · rintro i e K ⟨⟨t, g8, ht1⟩, g7, g17, i1, i2, i3, xs, x1, x2⟩
          by_cases hil : i < o.b.length
          · have hxi : xs[i]? = some xs[i] := List.getElem?_eq_getElem (by omega)
            have hwr := wrap_put ((xs[i]'(by omega)).toNat + 1) 0
            simp only [Int.pow_zero, Int.ediv_one, Nat.pow_zero, Nat.div_one] at hwr
            have hby : AV.v (.int .u8 (IntKind.u8.wrap (((xs[i]'(by omega)).toNat : Int) + 1))) = byteA (UInt8.ofNat ((xs[i]'(by omega)).toNat + 1)) := by rw [← hwr]; push_cast; rfl
            generalize xs[i]'(by omega) = v at *
            repeat' first | simp (disch := first | omega | assumption | decide) only [go_sem, hm, hz, ht, hr_, g7, g8, g17, x2, hxi, plainD_map, partD_map] | refine ifP_in (fun _ => ?_) fun _ => ?_
            rw [hby, store_row x2 (by omega), bindP_some]
            have hKl : H1.length < K.length := (List.getElem?_eq_some_iff.1 x2).1
            repeat' first | simp (disch := first | omega | assumption | decide) only [go_sem, hm, hz, ht, hr_, g7, g8, g17] | refine ifP_in (fun _ => ?_) fun _ => ?_
            exact ⟨i + 1, ⟨⟨t, rfl, ht1⟩, rfl, by omega, by simpa using i2, fun x hx => by rw [get_set_ne_ (fun e => hx e.symm)]; exact i3 x hx, xs.set i (UInt8.ofNat (v.toNat + 1)), by simpa using x1, get_set hKl⟩, by omega⟩
          · have : i = o.b.length := by omega
            subst this
            repeat' first | simp (disch := first | omega | assumption | decide) only [go_sem, hm, hz, ht, hr_, g7, g8, g17, wdl, bind_some_, map_some_, oneD_fold] | refine ifP_in (fun _ => ?_) fun _ => ?_
            refine ⟨t, rfl, ht1, _, _, hpair4.same fun x hx => i3 x (fun e => hk0u (by rw [← e]; exact hx)), ?_⟩
            refine (hst0.trans hst).off_ (by omega) fun x hx => i3 x ?_
            rintro rfl; omega
    · have hans : Dr.Live s r → False := fun hl => hE (congrArg Prod.fst (dlist_eq hl))
      rw [decide_eq_false hE]
      repeat' first | simp (disch := first | omega | assumption | decide) only [go_sem, hm, hz, ht, hr_, hb2, hb3, hb4, hpy, AV.bytes, wdl, bind_some_, map_some_, oneD_fold] | refine ifP_in (fun _ => ?_) fun _ => ?_
      have hry4 := hry.step hoff hst
      refine rF_use (lbytes_w o.b o.b hry4 (.inl rfl)) ?_
      rintro _ H6 ⟨rfl, rfl⟩
      rw [decide_eq_true (rfl : o.b = o.b)]
      rcases hyc with ⟨hb0, rfl, hH2⟩ | ⟨rfl, hH2, hbl⟩
      · repeat' first | simp (disch := first | omega | assumption | decide) only [go_sem, hm, hz, ht, hr_, hb2, hb4, hpy, AV.bytes, wdl, bind_some_, map_some_, oneD_fold] | refine ifP_in (fun _ => ?_) fun _ => ?_
        refine rL_loop (σ := Nat) (fun i e K => K = H6 ∧ (∃ t, e 8 = .b t ∧ (Dr.Live s r → t = true)) ∧ e 7 = .sl [] ∧ e 17 = .i 0) (fun i => i) 0 ?_ ?_
        · refine ⟨rfl, ⟨false, ?_, fun hl => (hans hl).elim⟩, ?_, ?_⟩
          all_goals first | (simp (disch := first | assumption | omega) only [go_sem]; done) | (simp (disch := first | assumption | omega) only [go_sem]; rfl)
        · rintro i e K ⟨hK, ⟨t, g8, ht1⟩, g7, g17⟩
          have hK := hK.symm
          subst hK
          repeat' first | simp (disch := first | omega | assumption | decide) only [go_sem, hm, hz, ht, hr_, g7, g8, g17, wdl, bind_some_, map_some_, oneD_fold] | refine ifP_in (fun _ => ?_) fun _ => ?_
          exact ⟨t, rfl, ht1, _, _, hpair4, hst0.trans hst⟩
      · have hk0 : H1.length ∉ S ++ T := fun hm => by have := hlt _ hm; omega
        have hk0l : H1.length < H2.length := by rw [hH2]; simp
        obtain ⟨hrow0, hk0u⟩ := hst.at_ hk0l hk0
        have hrow : H6[H1.length]? = some (o.b.map byteA) := by rw [hrow0, hH2]; exact get_end_ _
        repeat' first | simp (disch := first | omega | assumption | decide) only [go_sem, hm, hz, ht, hr_, hb2, hb4, hpy, AV.bytes, wdl, bind_some_, map_some_, oneD_fold] | refine ifP_in (fun _ => ?_) fun _ => ?_
        refine rL_loop (σ := Nat) (fun i e K => (∃ t, e 8 = .b t ∧ (Dr.Live s r → t = true)) ∧ e 7 = .mr H1.length 0 o.b.length 1 false ∧ e 17 = .i i ∧ i ≤ o.b.length ∧ K.length = H6.length ∧ (∀ x, x ≠ H1.length → K[x]? = H6[x]?) ∧ ∃ xs : Bs, xs.length = o.b.length ∧ K[H1.length]? = some (xs.map byteA)) (fun i => o.b.length - i) 0 ?_ ?_
        · refine ⟨⟨false, ?_, fun hl => (hans hl).elim⟩, ?_, ?_, by omega, rfl, fun _ _ => rfl, _, rfl, hrow⟩
          all_goals first | (simp (disch := first | assumption | omega) only [go_sem]; done) | (simp (disch := first | assumption | omega) only [go_sem]; rfl)
        · rintro i e K ⟨⟨t, g8, ht1⟩, g7, g17, i1, i2, i3, xs, x1, x2⟩
          by_cases hil : i < o.b.length
          · have hxi : xs[i]? = some xs[i] := List.getElem?_eq_getElem (by omega)
            have hwr := wrap_put ((xs[i]'(by omega)).toNat + 1) 0
            simp only [Int.pow_zero, Int.ediv_one, Nat.pow_zero, Nat.div_one] at hwr
            have hby : AV.v (.int .u8 (IntKind.u8.wrap (((xs[i]'(by omega)).toNat : Int) + 1))) = byteA (UInt8.ofNat ((xs[i]'(by omega)).toNat + 1)) := by rw [← hwr]; push_cast; rfl
            generalize xs[i]'(by omega) = v at *
            repeat' first | simp (disch := first | omega | assumption | decide) only [go_sem, hm, hz, ht, hr_, g7, g8, g17, x2, hxi, plainD_map, partD_map] | refine ifP_in (fun _ => ?_) fun _ => ?_
            rw [hby, store_row x2 (by omega), bindP_some]
            have hKl : H1.length < K.length := (List.getElem?_eq_some_iff.1 x2).1
            repeat' first | simp (disch := first | omega | assumption | decide) only [go_sem, hm, hz, ht, hr_, g7, g8, g17] | refine ifP_in (fun _ => ?_) fun _ => ?_
            exact ⟨i + 1, ⟨⟨t, rfl, ht1⟩, rfl, by omega, by simpa using i2, fun x hx => by rw [get_set_ne_ (fun e => hx e.symm)]; exact i3 x hx, xs.set i (UInt8.ofNat (v.toNat + 1)), by simpa using x1, get_set hKl⟩, by omega⟩
          · have : i = o.b.length := by omega
            subst this
            repeat' first | simp (disch := first | omega | assumption | decide) only [go_sem, hm, hz, ht, hr_, g7, g8, g17, wdl, bind_some_, map_some_, oneD_fold] | refine ifP_in (fun _ => ?_) fun _ => ?_
            refine ⟨t, rfl, ht1, _, _, hpair4.same fun x hx => i3 x (fun e => hk0u (by rw [← e]; exact hx)), ?_⟩
            refine (hst0.trans hst).off_ (by omega) fun x hx => i3 x ?_
            rintro rfl; omega
  by_cases c7 : o.kind = 7
  · have eD : doesD s o = Dk.crash s o.keep o.torn := by simp [doesD, c7]
    have eR : doesR r o = Dr.crash r o.keep o.torn := by simp [doesR, c7]
    rw [eD, eR]
    rw [c7] at hb2
    repeat' first | simp (disch := first | omega | assumption | decide) only [go_sem, hm, hz, ht, hr_, hb2, hpy, AV.bytes, wdl, bind_some_, map_some_, oneD_fold] | refine ifP_in (fun _ => ?_) fun _ => ?_
    refine rF_use (crash_w hpair.hd hk1.live.two.ok (by have := hk1.calls; omega) o.keep o.torn) ?_
    rintro _ H3 ⟨rfl, S3, hd3, hs3⟩
    obtain ⟨hpair3, hst3⟩ := hpair.stepL hs3 hd3
    have hb3 := (hst3.at_ hboxl hboxU).1.trans hb2
    repeat' first | simp (disch := first | omega | assumption | decide) only [go_sem, hm, hz, ht, hr_, hb2, hb3, hpy, AV.bytes, wdl, bind_some_, map_some_, oneD_fold] | refine ifP_in (fun _ => ?_) fun _ => ?_
    refine rF_use (rcrash_w hpair3.hr (rb_of hk2.live.two (by have := hk2.calls; omega) (by have := hk2.calls; omega)) o.keep o.torn) ?_
    rintro _ H4 ⟨rfl, T4, hr4, hs4⟩
    obtain ⟨hpair4, hst4⟩ := hpair3.stepR hs4 hr4
    have hst := hst3.trans hst4
    have hb4 := (hst.at_ hboxl hboxU).1.trans hb2
    have hans : Dr.Live s r → True := fun _ => trivial
    repeat' first | simp (disch := first | omega | assumption | decide) only [go_sem, hm, hz, ht, hr_, hb2, hb3, hb4, hpy, AV.bytes, wdl, bind_some_, map_some_, oneD_fold] | refine ifP_in (fun _ => ?_) fun _ => ?_
    have hry4 := hry.step hoff hst
    refine rF_use (lbytes_w o.b o.b hry4 (.inl rfl)) ?_
    rintro _ H6 ⟨rfl, rfl⟩
    rw [decide_eq_true (rfl : o.b = o.b)]
    rcases hyc with ⟨hb0, rfl, hH2⟩ | ⟨rfl, hH2, hbl⟩
    · repeat' first | simp (disch := first | omega | assumption | decide) only [go_sem, hm, hz, ht, hr_, hb2, hb4, hpy, AV.bytes, wdl, bind_some_, map_some_, oneD_fold] | refine ifP_in (fun _ => ?_) fun _ => ?_
      refine rL_loop (σ := Nat) (fun i e K => K = H6 ∧ (∃ t, e 8 = .b t ∧ (Dr.Live s r → t = true)) ∧ e 7 = .sl [] ∧ e 17 = .i 0) (fun i => i) 0 ?_ ?_
      · refine ⟨rfl, ⟨true, ?_, fun _ => rfl⟩, ?_, ?_⟩
        all_goals first | (simp (disch := first | assumption | omega) only [go_sem]; done) | (simp (disch := first | assumption | omega) only [go_sem]; rfl)
      · rintro i e K ⟨hK, ⟨t, g8, ht1⟩, g7, g17⟩
        have hK := hK.symm
        subst hK
        repeat' first | simp (disch := first | omega | assumption | decide) only [go_sem, hm, hz, ht, hr_, g7, g8, g17, wdl, bind_some_, map_some_, oneD_fold] | refine ifP_in (fun _ => ?_) fun _ => ?_
        exact ⟨t, rfl, ht1, _, _, hpair4, hst0.trans hst⟩
    · have hk0 : H1.length ∉ S ++ T := fun hm => by have := hlt _ hm; omega
      have hk0l : H1.length < H2.length := by rw [hH2]; simp
      obtain ⟨hrow0, hk0u⟩ := hst.at_ hk0l hk0
      have hrow : H6[H1.length]? = some (o.b.map byteA) := by rw [hrow0, hH2]; exact get_end_ _
      repeat' first | simp (disch := first | omega | assumption | decide) only [go_sem, hm, hz, ht, hr_, hb2, hb4, hpy, AV.bytes, wdl, bind_some_, map_some_, oneD_fold] | refine ifP_in (fun _ => ?_) fun _ => ?_
      refine rL_loop (σ := Nat) (fun i e K => (∃ t, e 8 = .b t ∧ (Dr.Live s r → t = true)) ∧ e 7 = .mr H1.length 0 o.b.length 1 false ∧ e 17 = .i i ∧ i ≤ o.b.length ∧ K.length = H6.length ∧ (∀ x, x ≠ H1.length → K[x]? = H6[x]?) ∧ ∃ xs : Bs, xs.length = o.b.length ∧ K[H1.length]? = some (xs.map byteA)) (fun i => o.b.length - i) 0 ?_ ?_
      · refine ⟨⟨true, ?_, fun _ => rfl⟩, ?_, ?_, by omega, rfl, fun _ _ => rfl, _, rfl, hrow⟩
        all_goals first | (simp (disch := first | assumption | omega) only [go_sem]; done) | (simp (disch := first | assumption | omega) only [go_sem]; rfl)
      · rintro i e K ⟨⟨t, g8, ht1⟩, g7, g17, i1, i2, i3, xs, x1, x2⟩
        by_cases hil : i < o.b.length
        · have hxi : xs[i]? = some xs[i] := List.getElem?_eq_getElem (by omega)
          have hwr := wrap_put ((xs[i]'(by omega)).toNat + 1) 0
          simp only [Int.pow_zero, Int.ediv_one, Nat.pow_zero, Nat.div_one] at hwr
          have hby : AV.v (.int .u8 (IntKind.u8.wrap (((xs[i]'(by omega)).toNat : Int) + 1))) = byteA (UInt8.ofNat ((xs[i]'(by omega)).toNat + 1)) := by rw [← hwr]; push_cast; rfl
          generalize xs[i]'(by omega) = v at *
          repeat' first | simp (disch := first | omega | assumption | decide) only [go_sem, hm, hz, ht, hr_, g7, g8, g17, x2, hxi, plainD_map, partD_map] | refine ifP_in (fun _ => ?_) fun _ => ?_
          rw [hby, store_row x2 (by omega), bindP_some]
          have hKl : H1.length < K.length := (List.getElem?_eq_some_iff.1 x2).1
          repeat' first | simp (disch := first | omega | assumption | decide) only [go_sem, hm, hz, ht, hr_, g7, g8, g17] | refine ifP_in (fun _ => ?_) fun _ => ?_
          exact ⟨i + 1, ⟨⟨t, rfl, ht1⟩, rfl, by omega, by simpa using i2, fun x hx => by rw [get_set_ne_ (fun e => hx e.symm)]; exact i3 x hx, xs.set i (UInt8.ofNat (v.toNat + 1)), by simpa using x1, get_set hKl⟩, by omega⟩
        · have : i = o.b.length := by omega
          subst this
          repeat' first | simp (disch := first | omega | assumption | decide) only [go_sem, hm, hz, ht, hr_, g7, g8, g17, wdl, bind_some_, map_some_, oneD_fold] | refine ifP_in (fun _ => ?_) fun _ => ?_
          refine ⟨t, rfl, ht1, _, _, hpair4.same fun x hx => i3 x (fun e => hk0u (by rw [← e]; exact hx)), ?_⟩
          refine (hst0.trans hst).off_ (by omega) fun x hx => i3 x ?_
          rintro rfl; omega
  by_cases c8 : o.kind = 8
  · have eD : doesD s o = { s with down := false } := by simp [doesD, c8]
    have eR : doesR r o = { r with down := false } := by simp [doesR, c8]
    rw [eD, eR]
    rw [c8] at hb2
    repeat' first | simp (disch := first | omega | assumption | decide) only [go_sem, hm, hz, ht, hr_, hb2, hpy, AV.bytes, wdl, bind_some_, map_some_, oneD_fold] | refine ifP_in (fun _ => ?_) fun _ => ?_
    refine rF_use (reboot_w hpair.hd) ?_
    rintro _ H3 ⟨rfl, S3, hd3, hs3⟩
    obtain ⟨hpair3, hst3⟩ := hpair.stepL hs3 hd3
    have hb3 := (hst3.at_ hboxl hboxU).1.trans hb2
    repeat' first | simp (disch := first | omega | assumption | decide) only [go_sem, hm, hz, ht, hr_, hb2, hb3, hpy, AV.bytes, wdl, bind_some_, map_some_, oneD_fold] | refine ifP_in (fun _ => ?_) fun _ => ?_
    refine rF_use (rreboot_w hpair3.hr) ?_
    rintro _ H4 ⟨rfl, T4, hr4, hs4⟩
    obtain ⟨hpair4, hst4⟩ := hpair3.stepR hs4 hr4
    have hst := hst3.trans hst4
    have hb4 := (hst.at_ hboxl hboxU).1.trans hb2
    have hans : Dr.Live s r → True := fun _ => trivial
    repeat' first | simp (disch := first | omega | assumption | decide) only [go_sem, hm, hz, ht, hr_, hb2, hb3, hb4, hpy, AV.bytes, wdl, bind_some_, map_some_, oneD_fold] | refine ifP_in (fun _ => ?_) fun _ => ?_
    have hry4 := hry.step hoff hst
    refine rF_use (lbytes_w o.b o.b hry4 (.inl rfl)) ?_
    rintro _ H6 ⟨rfl, rfl⟩
    rw [decide_eq_true (rfl : o.b = o.b)]
    rcases hyc with ⟨hb0, rfl, hH2⟩ | ⟨rfl, hH2, hbl⟩
    · repeat' first | simp (disch := first | omega | assumption | decide) only [go_sem, hm, hz, ht, hr_, hb2, hb4, hpy, AV.bytes, wdl, bind_some_, map_some_, oneD_fold] | refine ifP_in (fun _ => ?_) fun _ => ?_
      refine rL_loop (σ := Nat) (fun i e K => K = H6 ∧ (∃ t, e 8 = .b t ∧ (Dr.Live s r → t = true)) ∧ e 7 = .sl [] ∧ e 17 = .i 0) (fun i => i) 0 ?_ ?_
      · refine ⟨rfl, ⟨true, ?_, fun _ => rfl⟩, ?_, ?_⟩
        all_goals first | (simp (disch := first | assumption | omega) only [go_sem]; done) | (simp (disch := first | assumption | omega) only [go_sem]; rfl)
      · rintro i e K ⟨hK, ⟨t, g8, ht1⟩, g7, g17⟩
        have hK := hK.symm
        subst hK
        repeat' first | simp (disch := first | omega | assumption | decide) only [go_sem, hm, hz, ht, hr_, g7, g8, g17, wdl, bind_some_, map_some_, oneD_fold] | refine ifP_in (fun _ => ?_) fun _ => ?_
        exact ⟨t, rfl, ht1, _, _, hpair4, hst0.trans hst⟩
    · have hk0 : H1.length ∉ S ++ T := fun hm => by have := hlt _ hm; omega
      have hk0l : H1.length < H2.length := by rw [hH2]; simp
      obtain ⟨hrow0, hk0u⟩ := hst.at_ hk0l hk0
      have hrow : H6[H1.length]? = some (o.b.map byteA) := by rw [hrow0, hH2]; exact get_end_ _
      repeat' first | simp (disch := first | omega | assumption | decide) only [go_sem, hm, hz, ht, hr_, hb2, hb4, hpy, AV.bytes, wdl, bind_some_, map_some_, oneD_fold] | refine ifP_in (fun _ => ?_) fun _ => ?_
      refine rL_loop (σ := Nat) (fun i e K => (∃ t, e 8 = .b t ∧ (Dr.Live s r → t = true)) ∧ e 7 = .mr H1.length 0 o.b.length 1 false ∧ e 17 = .i i ∧ i ≤ o.b.length ∧ K.length = H6.length ∧ (∀ x, x ≠ H1.length → K[x]? = H6[x]?) ∧ ∃ xs : Bs, xs.length = o.b.length ∧ K[H1.length]? = some (xs.map byteA)) (fun i => o.b.length - i) 0 ?_ ?_
      · refine ⟨⟨true, ?_, fun _ => rfl⟩, ?_, ?_, by omega, rfl, fun _ _ => rfl, _, rfl, hrow⟩
        all_goals first | (simp (disch := first | assumption | omega) only [go_sem]; done) | (simp (disch := first | assumption | omega) only [go_sem]; rfl)
      · rintro i e K ⟨⟨t, g8, ht1⟩, g7, g17, i1, i2, i3, xs, x1, x2⟩
        by_cases hil : i < o.b.length
        · have hxi : xs[i]? = some xs[i] := List.getElem?_eq_getElem (by omega)
          have hwr := wrap_put ((xs[i]'(by omega)).toNat + 1) 0
          simp only [Int.pow_zero, Int.ediv_one, Nat.pow_zero, Nat.div_one] at hwr
          have hby : AV.v (.int .u8 (IntKind.u8.wrap (((xs[i]'(by omega)).toNat : Int) + 1))) = byteA (UInt8.ofNat ((xs[i]'(by omega)).toNat + 1)) := by rw [← hwr]; push_cast; rfl
          generalize xs[i]'(by omega) = v at *
          repeat' first | simp (disch := first | omega | assumption | decide) only [go_sem, hm, hz, ht, hr_, g7, g8, g17, x2, hxi, plainD_map, partD_map] | refine ifP_in (fun _ => ?_) fun _ => ?_
          rw [hby, store_row x2 (by omega), bindP_some]
          have hKl : H1.length < K.length := (List.getElem?_eq_some_iff.1 x2).1
          repeat' first | simp (disch := first | omega | assumption | decide) only [go_sem, hm, hz, ht, hr_, g7, g8, g17] | refine ifP_in (fun _ => ?_) fun _ => ?_
          exact ⟨i + 1, ⟨⟨t, rfl, ht1⟩, rfl, by omega, by simpa using i2, fun x hx => by rw [get_set_ne_ (fun e => hx e.symm)]; exact i3 x hx, xs.set i (UInt8.ofNat (v.toNat + 1)), by simpa using x1, get_set hKl⟩, by omega⟩
        · have : i = o.b.length := by omega
          subst this
          repeat' first | simp (disch := first | omega | assumption | decide) only [go_sem, hm, hz, ht, hr_, g7, g8, g17, wdl, bind_some_, map_some_, oneD_fold] | refine ifP_in (fun _ => ?_) fun _ => ?_
          refine ⟨t, rfl, ht1, _, _, hpair4.same fun x hx => i3 x (fun e => hk0u (by rw [← e]; exact hx)), ?_⟩
          refine (hst0.trans hst).off_ (by omega) fun x hx => i3 x ?_
          rintro rfl; omega
  by_cases c9 : o.kind = 9
  · have eD : doesD s o = { s with plan := o.plan } := by simp [doesD, c9]
    have eR : doesR r o = Dr.plan r o.plan := by simp [doesR, c9]
    rw [eD, eR]
    rw [c9] at hb2
    repeat' first | simp (disch := first | omega | assumption | decide) only [go_sem, hm, hz, ht, hr_, hb2, hpy, AV.bytes, wdl, bind_some_, map_some_, oneD_fold] | refine ifP_in (fun _ => ?_) fun _ => ?_
    refine rF_use (plan_w hpair.hd o.plan (by omega) (x := .sl (o.plan.map evA)) (.inr rfl)) ?_
    rintro _ H3 ⟨rfl, S3, hd3, hs3⟩
    obtain ⟨hpair3, hst3⟩ := hpair.stepL hs3 hd3
    have hb3 := (hst3.at_ hboxl hboxU).1.trans hb2
    repeat' first | simp (disch := first | omega | assumption | decide) only [go_sem, hm, hz, ht, hr_, hb2, hb3, hpy, AV.bytes, wdl, bind_some_, map_some_, oneD_fold] | refine ifP_in (fun _ => ?_) fun _ => ?_
    refine rF_use (plainE_w o.plan (by omega)) ?_
    rintro _ H33 ⟨rfl, rfl⟩
    repeat' first | simp (disch := first | omega | assumption | decide) only [go_sem, hm, hz, ht, hr_, hb2, hb3, hpy, AV.bytes, wdl, bind_some_, map_some_, oneD_fold] | refine ifP_in (fun _ => ?_) fun _ => ?_
    refine rF_use (rplan_w hpair3.hr o.plan (by omega)) ?_
    rintro _ H4 ⟨rfl, T4, hr4, hs4⟩
    obtain ⟨hpair4, hst4⟩ := hpair3.stepR hs4 hr4
    have hst := hst3.trans hst4
    have hb4 := (hst.at_ hboxl hboxU).1.trans hb2
    have hans : Dr.Live s r → True := fun _ => trivial
    repeat' first | simp (disch := first | omega | assumption | decide) only [go_sem, hm, hz, ht, hr_, hb2, hb3, hb4, hpy, AV.bytes, wdl, bind_some_, map_some_, oneD_fold] | refine ifP_in (fun _ => ?_) fun _ => ?_
    have hry4 := hry.step hoff hst
    refine rF_use (lbytes_w o.b o.b hry4 (.inl rfl)) ?_
    rintro _ H6 ⟨rfl, rfl⟩
    rw [decide_eq_true (rfl : o.b = o.b)]
    rcases hyc with ⟨hb0, rfl, hH2⟩ | ⟨rfl, hH2, hbl⟩
    · repeat' first | simp (disch := first | omega | assumption | decide) only [go_sem, hm, hz, ht, hr_, hb2, hb4, hpy, AV.bytes, wdl, bind_some_, map_some_, oneD_fold] | refine ifP_in (fun _ => ?_) fun _ => ?_
      refine rL_loop (σ := Nat) (fun i e K => K = H6 ∧ (∃ t, e 8 = .b t ∧ (Dr.Live s r → t = true)) ∧ e 7 = .sl [] ∧ e 17 = .i 0) (fun i => i) 0 ?_ ?_
      · refine ⟨rfl, ⟨true, ?_, fun _ => rfl⟩, ?_, ?_⟩
        all_goals first | (simp (disch := first | assumption | omega) only [go_sem]; done) | (simp (disch := first | assumption | omega) only [go_sem]; rfl)
      · rintro i e K ⟨hK, ⟨t, g8, ht1⟩, g7, g17⟩
        have hK := hK.symm
        subst hK
        repeat' first | simp (disch := first | omega | assumption | decide) only [go_sem, hm, hz, ht, hr_, g7, g8, g17, wdl, bind_some_, map_some_, oneD_fold] | refine ifP_in (fun _ => ?_) fun _ => ?_
        exact ⟨t, rfl, ht1, _, _, hpair4, hst0.trans hst⟩
    · have hk0 : H1.length ∉ S ++ T := fun hm => by have := hlt _ hm; omega
      have hk0l : H1.length < H2.length := by rw [hH2]; simp
      obtain ⟨hrow0, hk0u⟩ := hst.at_ hk0l hk0
      have hrow : H6[H1.length]? = some (o.b.map byteA) := by rw [hrow0, hH2]; exact get_end_ _
      repeat' first | simp (disch := first | omega | assumption | decide) only [go_sem, hm, hz, ht, hr_, hb2, hb4, hpy, AV.bytes, wdl, bind_some_, map_some_, oneD_fold] | refine ifP_in (fun _ => ?_) fun _ => ?_
      refine rL_loop (σ := Nat) (fun i e K => (∃ t, e 8 = .b t ∧ (Dr.Live s r → t = true)) ∧ e 7 = .mr H1.length 0 o.b.length 1 false ∧ e 17 = .i i ∧ i ≤ o.b.length ∧ K.length = H6.length ∧ (∀ x, x ≠ H1.length → K[x]? = H6[x]?) ∧ ∃ xs : Bs, xs.length = o.b.length ∧ K[H1.length]? = some (xs.map byteA)) (fun i => o.b.length - i) 0 ?_ ?_
      · refine ⟨⟨true, ?_, fun _ => rfl⟩, ?_, ?_, by omega, rfl, fun _ _ => rfl, _, rfl, hrow⟩
        all_goals first | (simp (disch := first | assumption | omega) only [go_sem]; done) | (simp (disch := first | assumption | omega) only [go_sem]; rfl)
      · rintro i e K ⟨⟨t, g8, ht1⟩, g7, g17, i1, i2, i3, xs, x1, x2⟩
        by_cases hil : i < o.b.length
        · have hxi : xs[i]? = some xs[i] := List.getElem?_eq_getElem (by omega)
          have hwr := wrap_put ((xs[i]'(by omega)).toNat + 1) 0
          simp only [Int.pow_zero, Int.ediv_one, Nat.pow_zero, Nat.div_one] at hwr
          have hby : AV.v (.int .u8 (IntKind.u8.wrap (((xs[i]'(by omega)).toNat : Int) + 1))) = byteA (UInt8.ofNat ((xs[i]'(by omega)).toNat + 1)) := by rw [← hwr]; push_cast; rfl
          generalize xs[i]'(by omega) = v at *
          repeat' first | simp (disch := first | omega | assumption | decide) only [go_sem, hm, hz, ht, hr_, g7, g8, g17, x2, hxi, plainD_map, partD_map] | refine ifP_in (fun _ => ?_) fun _ => ?_
          rw [hby, store_row x2 (by omega), bindP_some]
          have hKl : H1.length < K.length := (List.getElem?_eq_some_iff.1 x2).1
          repeat' first | simp (disch := first | omega | assumption | decide) only [go_sem, hm, hz, ht, hr_, g7, g8, g17] | refine ifP_in (fun _ => ?_) fun _ => ?_
          exact ⟨i + 1, ⟨⟨t, rfl, ht1⟩, rfl, by omega, by simpa using i2, fun x hx => by rw [get_set_ne_ (fun e => hx e.symm)]; exact i3 x hx, xs.set i (UInt8.ofNat (v.toNat + 1)), by simpa using x1, get_set hKl⟩, by omega⟩
        · have : i = o.b.length := by omega
          subst this
          repeat' first | simp (disch := first | omega | assumption | decide) only [go_sem, hm, hz, ht, hr_, g7, g8, g17, wdl, bind_some_, map_some_, oneD_fold] | refine ifP_in (fun _ => ?_) fun _ => ?_
          refine ⟨t, rfl, ht1, _, _, hpair4.same fun x hx => i3 x (fun e => hk0u (by rw [← e]; exact hx)), ?_⟩
          refine (hst0.trans hst).off_ (by omega) fun x hx => i3 x ?_
          rintro rfl; omega
  by_cases c10 : o.kind = 10
  · have eD : doesD s o = if 0 ≤ o.room ∧ o.room ≤ 1073741824 then { s with room := o.room } else s := by simp [doesD, c10]
    have eR : doesR r o = if 0 ≤ o.room ∧ o.room ≤ 1073741824 then { r with room := o.room } else r := by simp [doesR, c10]
    rw [eD, eR]
    rw [c10] at hb2
    repeat' first | simp (disch := first | omega | assumption | decide) only [go_sem, hm, hz, ht, hr_, hb2, hpy, AV.bytes, wdl, bind_some_, map_some_, oneD_fold] | refine ifP_in (fun _ => ?_) fun _ => ?_
    refine rF_use (resize_w hpair.hd o.room) ?_
    rintro _ H3 ⟨rfl, S3, hd3, hs3⟩
    obtain ⟨hpair3, hst3⟩ := hpair.stepL hs3 hd3
    have hb3 := (hst3.at_ hboxl hboxU).1.trans hb2
    repeat' first | simp (disch := first | omega | assumption | decide) only [go_sem, hm, hz, ht, hr_, hb2, hb3, hpy, AV.bytes, wdl, bind_some_, map_some_, oneD_fold] | refine ifP_in (fun _ => ?_) fun _ => ?_
    refine rF_use (rresize_w hpair3.hr o.room) ?_
    rintro _ H4 ⟨rfl, T4, hr4, hs4⟩
    obtain ⟨hpair4, hst4⟩ := hpair3.stepR hs4 hr4
    have hst := hst3.trans hst4
    have hb4 := (hst.at_ hboxl hboxU).1.trans hb2
    have hans : Dr.Live s r → True := fun _ => trivial
    repeat' first | simp (disch := first | omega | assumption | decide) only [go_sem, hm, hz, ht, hr_, hb2, hb3, hb4, hpy, AV.bytes, wdl, bind_some_, map_some_, oneD_fold] | refine ifP_in (fun _ => ?_) fun _ => ?_
    have hry4 := hry.step hoff hst
    refine rF_use (lbytes_w o.b o.b hry4 (.inl rfl)) ?_
    rintro _ H6 ⟨rfl, rfl⟩
    rw [decide_eq_true (rfl : o.b = o.b)]
    rcases hyc with ⟨hb0, rfl, hH2⟩ | ⟨rfl, hH2, hbl⟩
    · repeat' first | simp (disch := first | omega | assumption | decide) only [go_sem, hm, hz, ht, hr_, hb2, hb4, hpy, AV.bytes, wdl, bind_some_, map_some_, oneD_fold] | refine ifP_in (fun _ => ?_) fun _ => ?_
      refine rL_loop (σ := Nat) (fun i e K => K = H6 ∧ (∃ t, e 8 = .b t ∧ (Dr.Live s r → t = true)) ∧ e 7 = .sl [] ∧ e 17 = .i 0) (fun i => i) 0 ?_ ?_
      · refine ⟨rfl, ⟨true, ?_, fun _ => rfl⟩, ?_, ?_⟩
        all_goals first | (simp (disch := first | assumption | omega) only [go_sem]; done) | (simp (disch := first | assumption | omega) only [go_sem]; rfl)
      · rintro i e K ⟨hK, ⟨t, g8, ht1⟩, g7, g17⟩
        have hK := hK.symm
        subst hK
        repeat' first | simp (disch := first | omega | assumption | decide) only [go_sem, hm, hz, ht, hr_, g7, g8, g17, wdl, bind_some_, map_some_, oneD_fold] | refine ifP_in (fun _ => ?_) fun _ => ?_
        exact ⟨t, rfl, ht1, _, _, hpair4, hst0.trans hst⟩
    · have hk0 : H1.length ∉ S ++ T := fun hm => by have := hlt _ hm; omega
      have hk0l : H1.length < H2.length := by rw [hH2]; simp
      obtain ⟨hrow0, hk0u⟩ := hst.at_ hk0l hk0
      have hrow : H6[H1.length]? = some (o.b.map byteA) := by rw [hrow0, hH2]; exact get_end_ _
      repeat' first | simp (disch := first | omega | assumption | decide) only [go_sem, hm, hz, ht, hr_, hb2, hb4, hpy, AV.bytes, wdl, bind_some_, map_some_, oneD_fold] | refine ifP_in (fun _ => ?_) fun _ => ?_
      refine rL_loop (σ := Nat) (fun i e K => (∃ t, e 8 = .b t ∧ (Dr.Live s r → t = true)) ∧ e 7 = .mr H1.length 0 o.b.length 1 false ∧ e 17 = .i i ∧ i ≤ o.b.length ∧ K.length = H6.length ∧ (∀ x, x ≠ H1.length → K[x]? = H6[x]?) ∧ ∃ xs : Bs, xs.length = o.b.length ∧ K[H1.length]? = some (xs.map byteA)) (fun i => o.b.length - i) 0 ?_ ?_
      · refine ⟨⟨true, ?_, fun _ => rfl⟩, ?_, ?_, by omega, rfl, fun _ _ => rfl, _, rfl, hrow⟩
        all_goals first | (simp (disch := first | assumption | omega) only [go_sem]; done) | (simp (disch := first | assumption | omega) only [go_sem]; rfl)
      · rintro i e K ⟨⟨t, g8, ht1⟩, g7, g17, i1, i2, i3, xs, x1, x2⟩
        by_cases hil : i < o.b.length
        · have hxi : xs[i]? = some xs[i] := List.getElem?_eq_getElem (by omega)
          have hwr := wrap_put ((xs[i]'(by omega)).toNat + 1) 0
          simp only [Int.pow_zero, Int.ediv_one, Nat.pow_zero, Nat.div_one] at hwr
          have hby : AV.v (.int .u8 (IntKind.u8.wrap (((xs[i]'(by omega)).toNat : Int) + 1))) = byteA (UInt8.ofNat ((xs[i]'(by omega)).toNat + 1)) := by rw [← hwr]; push_cast; rfl
          generalize xs[i]'(by omega) = v at *
          repeat' first | simp (disch := first | omega | assumption | decide) only [go_sem, hm, hz, ht, hr_, g7, g8, g17, x2, hxi, plainD_map, partD_map] | refine ifP_in (fun _ => ?_) fun _ => ?_
          rw [hby, store_row x2 (by omega), bindP_some]
          have hKl : H1.length < K.length := (List.getElem?_eq_some_iff.1 x2).1
          repeat' first | simp (disch := first | omega | assumption | decide) only [go_sem, hm, hz, ht, hr_, g7, g8, g17] | refine ifP_in (fun _ => ?_) fun _ => ?_
          exact ⟨i + 1, ⟨⟨t, rfl, ht1⟩, rfl, by omega, by simpa using i2, fun x hx => by rw [get_set_ne_ (fun e => hx e.symm)]; exact i3 x hx, xs.set i (UInt8.ofNat (v.toNat + 1)), by simpa using x1, get_set hKl⟩, by omega⟩
        · have : i = o.b.length := by omega
          subst this
          repeat' first | simp (disch := first | omega | assumption | decide) only [go_sem, hm, hz, ht, hr_, g7, g8, g17, wdl, bind_some_, map_some_, oneD_fold] | refine ifP_in (fun _ => ?_) fun _ => ?_
          refine ⟨t, rfl, ht1, _, _, hpair4.same fun x hx => i3 x (fun e => hk0u (by rw [← e]; exact hx)), ?_⟩
          refine (hst0.trans hst).off_ (by omega) fun x hx => i3 x ?_
          rintro rfl; omega
  · have eD : doesD s o = s := by simp [doesD, c0, c1, c2, c3, c4, c5, c6, c7, c8, c9, c10]
    have eR : doesR r o = r := by simp [doesR, c0, c1, c2, c3, c4, c5, c6, c7, c8, c9, c10]
    rw [eD, eR]
    have hans : Dr.Live s r → True := fun _ => trivial
    repeat' first | simp (disch := first | omega | assumption | decide) only [go_sem, hm, hz, ht, hr_, hb2, hpy, AV.bytes, wdl, bind_some_, map_some_, oneD_fold] | refine ifP_in (fun _ => ?_) fun _ => ?_
    obtain ⟨H4, hH4⟩ : ∃ H4, H4 = H2 := ⟨_, rfl⟩
    rw [← hH4]
    have hpair4 : Pair H4 j k S T s r := by rw [hH4]; exact hpair
    have hst : Step H2 (S ++ T) H4 (S ++ T) := by rw [hH4]; exact Step.refl _ _
    have hb4 := hb2
    rw [← hH4] at hb4
    have hry4 := hry.step hoff hst
    refine rF_use (lbytes_w o.b o.b hry4 (.inl rfl)) ?_
    rintro _ H6 ⟨rfl, rfl⟩
    rw [decide_eq_true (rfl : o.b = o.b)]
    rcases hyc with ⟨hb0, rfl, hH2⟩ | ⟨rfl, hH2, hbl⟩
    · repeat' first | simp (disch := first | omega | assumption | decide) only [go_sem, hm, hz, ht, hr_, hb2, hb4, hpy, AV.bytes, wdl, bind_some_, map_some_, oneD_fold] | refine ifP_in (fun _ => ?_) fun _ => ?_
      refine rL_loop (σ := Nat) (fun i e K => K = H6 ∧ (∃ t, e 8 = .b t ∧ (Dr.Live s r → t = true)) ∧ e 7 = .sl [] ∧ e 17 = .i 0) (fun i => i) 0 ?_ ?_
      · refine ⟨rfl, ⟨true, ?_, fun _ => rfl⟩, ?_, ?_⟩
        all_goals first | (simp (disch := first | assumption | omega) only [go_sem]; done) | (simp (disch := first | assumption | omega) only [go_sem]; rfl)
      · rintro i e K ⟨hK, ⟨t, g8, ht1⟩, g7, g17⟩
        have hK := hK.symm
        subst hK
        repeat' first | simp (disch := first | omega | assumption | decide) only [go_sem, hm, hz, ht, hr_, g7, g8, g17, wdl, bind_some_, map_some_, oneD_fold] | refine ifP_in (fun _ => ?_) fun _ => ?_
        exact ⟨t, rfl, ht1, _, _, hpair4, hst0.trans hst⟩
    · have hk0 : H1.length ∉ S ++ T := fun hm => by have := hlt _ hm; omega
      have hk0l : H1.length < H2.length := by rw [hH2]; simp
      obtain ⟨hrow0, hk0u⟩ := hst.at_ hk0l hk0
      have hrow : H6[H1.length]? = some (o.b.map byteA) := by rw [hrow0, hH2]; exact get_end_ _
      repeat' first | simp (disch := first | omega | assumption | decide) only [go_sem, hm, hz, ht, hr_, hb2, hb4, hpy, AV.bytes, wdl, bind_some_, map_some_, oneD_fold] | refine ifP_in (fun _ => ?_) fun _ => ?_
      refine rL_loop (σ := Nat) (fun i e K => (∃ t, e 8 = .b t ∧ (Dr.Live s r → t = true)) ∧ e 7 = .mr H1.length 0 o.b.length 1 false ∧ e 17 = .i i ∧ i ≤ o.b.length ∧ K.length = H6.length ∧ (∀ x, x ≠ H1.length → K[x]? = H6[x]?) ∧ ∃ xs : Bs, xs.length = o.b.length ∧ K[H1.length]? = some (xs.map byteA)) (fun i => o.b.length - i) 0 ?_ ?_
      · refine ⟨⟨true, ?_, fun _ => rfl⟩, ?_, ?_, by omega, rfl, fun _ _ => rfl, _, rfl, hrow⟩
        all_goals first | (simp (disch := first | assumption | omega) only [go_sem]; done) | (simp (disch := first | assumption | omega) only [go_sem]; rfl)
      · rintro i e K ⟨⟨t, g8, ht1⟩, g7, g17, i1, i2, i3, xs, x1, x2⟩
        by_cases hil : i < o.b.length
        · have hxi : xs[i]? = some xs[i] := List.getElem?_eq_getElem (by omega)
          have hwr := wrap_put ((xs[i]'(by omega)).toNat + 1) 0
          simp only [Int.pow_zero, Int.ediv_one, Nat.pow_zero, Nat.div_one] at hwr
          have hby : AV.v (.int .u8 (IntKind.u8.wrap (((xs[i]'(by omega)).toNat : Int) + 1))) = byteA (UInt8.ofNat ((xs[i]'(by omega)).toNat + 1)) := by rw [← hwr]; push_cast; rfl
          generalize xs[i]'(by omega) = v at *
          repeat' first | simp (disch := first | omega | assumption | decide) only [go_sem, hm, hz, ht, hr_, g7, g8, g17, x2, hxi, plainD_map, partD_map] | refine ifP_in (fun _ => ?_) fun _ => ?_
          rw [hby, store_row x2 (by omega), bindP_some]
          have hKl : H1.length < K.length := (List.getElem?_eq_some_iff.1 x2).1
          repeat' first | simp (disch := first | omega | assumption | decide) only [go_sem, hm, hz, ht, hr_, g7, g8, g17] | refine ifP_in (fun _ => ?_) fun _ => ?_
          exact ⟨i + 1, ⟨⟨t, rfl, ht1⟩, rfl, by omega, by simpa using i2, fun x hx => by rw [get_set_ne_ (fun e => hx e.symm)]; exact i3 x hx, xs.set i (UInt8.ofNat (v.toNat + 1)), by simpa using x1, get_set hKl⟩, by omega⟩
        · have : i = o.b.length := by omega
          subst this
          repeat' first | simp (disch := first | omega | assumption | decide) only [go_sem, hm, hz, ht, hr_, g7, g8, g17, wdl, bind_some_, map_some_, oneD_fold] | refine ifP_in (fun _ => ?_) fun _ => ?_
          refine ⟨t, rfl, ht1, _, _, hpair4.same fun x hx => i3 x (fun e => hk0u (by rw [← e]; exact hx)), ?_⟩
          refine (hst0.trans hst).off_ (by omega) fun x hx => i3 x ?_
          rintro rfl; omega
end Jn
end Go.Proofs
