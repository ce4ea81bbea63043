/- Walks: operations that are few and small. -/
import Derived.Test.YtbfcbjmoijiffaaGreatDlC
import Derived.Test.YtbfcbjmoijiffaaGreatJrAlldx0
set_option linter.unusedVariables false
set_option linter.unusedSimpArgs false
namespace Go.Proofs
open Go.Lv
namespace Jn
open Dk (Files Bs Ch Ev)
open Dl (DOp Small)
variable {H : Heap}

def total (l : List (List UInt8)) : Nat := (l.map List.length).sum
theorem total_snoc (l : List (List UInt8)) (i : Nat) (h : i < l.length) : total (l.take (i + 1)) = total (l.take i) + (l[i]).length := by
  rw [List.take_succ_eq_append_getElem h, total, List.map_append, List.sum_append]
  simp [total]
theorem lenD_bytes {el : TypeId} {l : List UInt8} : lenD (some (.slice el)) (AV.bytes l) = some (.v (.int .i64 l.length)) := by simp [lenD, AV.bytes]
theorem ix_get {α : Type} [Inhabited α] {l : List α} {i : Nat} (h : i < l.length) : ix l (i : Int) = l[i] := by
  simp [ix, List.getD_eq_getElem?_getD, List.getElem?_eq_getElem h]

theorem ltexts_w (l : List (List UInt8)) (hl : l.length ≤ 140737488355328) (hs : ∀ p ∈ l, p.length ≤ 140737488355328) : WF Tryz.prog cfg 24 [.sl (l.map AV.bytes)] H (fun r H' => ∃ t, r = .b t ∧ H' = H ∧ (t = true → l.length ≤ 60 ∧ total l ≤ 70000)) := by
  have hm : ∀ d, cfg.muF 24 d = (false) := fun _ => rfl
  have hz : ∀ d, cfg.fzF 24 d = (false) := fun _ => rfl
  have ht : ∀ d, cfg.tkF 24 d = (false) := fun _ => rfl
  have hr_ : ∀ g, cfg.raw g = (g == 68) := fun _ => rfl
  refine rF_fn rfl rfl Tryz.func24 rfl ?_
  repeat' first | simp (disch := first | omega | assumption | decide) only [go_sem, hm, hz, ht, hr_] | refine ifP_in (fun _ => ?_) fun _ => ?_
  refine rL_loop (σ := Nat × Nat) (fun z e H' => H' = H ∧ e 0 = .sl (l.map AV.bytes) ∧ e 4 = .i z.1 ∧ z.1 ≤ l.length ∧ z.1 ≤ 60 ∧ e 3 = .i z.2 ∧ z.2 ≤ 280000 ∧ (z.2 ≤ 70000 → total (l.take z.1) ≤ z.2)) (fun z => 60 - z.1) (0, 0) ?_ ?_
  · refine ⟨rfl, ?_, ?_, by simp, by simp, ?_, by simp, by simp [total]⟩
    all_goals first | (simp (disch := first | assumption | omega) only [go_sem]; done) | (simp (disch := first | assumption | omega) only [go_sem]; rfl)
  · rintro ⟨i, n⟩ e H' ⟨rfl, g0, g4, i1, i2, g3, i3, i4⟩
    simp only at g0 g4 i1 i2 g3 i3 i4
    by_cases hlt : i < l.length ∧ i < 60
    · have h1 : i < l.length := hlt.1
      have hsz := hs l[i] (List.getElem_mem h1)
      have ht := total_snoc l i h1
      repeat' first | simp (disch := first | omega | assumption | decide) only [go_sem, hm, hz, ht, hr_, g0, g4, g3, cells_bytes, ix_get h1, lenD_bytes] | refine ifP_in (fun _ => ?_) fun _ => ?_
      refine ⟨(i + 1, min (n + min (l[i]).length 70001) 280000), ⟨by congr 2, by simp only; omega, by simp only; omega, ?_, by simp only; omega, ?_⟩, by simp only; omega⟩
      · simp only; congr 2; omega
      · simp only; intro hle; have := i4 (by omega); omega
    · by_cases hl0 : l.length ≤ 60
      · have hi : i = l.length := by omega
        subst hi
        rw [List.take_length] at i4
        repeat' first | simp (disch := first | omega | assumption | decide) only [go_sem, hm, hz, ht, hr_, g0, g4, g3] | refine ifP_in (fun _ => ?_) fun _ => ?_
        refine ⟨_, rfl, fun h => ⟨hl0, ?_⟩⟩
        have h : n ≤ 70000 := by
          simp only [Bool.and_eq_true, decide_eq_true_eq] at h
          omega
        have := i4 h
        omega
      · have hi : i = 60 := by omega
        subst hi
        repeat' first | simp (disch := first | omega | assumption | decide) only [go_sem, hm, hz, ht, hr_, g0, g4, g3] | refine ifP_in (fun _ => ?_) fun _ => ?_
        exact ⟨_, rfl, fun h => by cases h⟩


structure JOp where
  kind : Int
  b : Bs
  l : List Bs
  d : DOp
  deriving Inhabited
def opJ (o : JOp) : AV := .agg [.i o.kind, AV.bytes o.b, .sl (o.l.map AV.bytes), .i o.d.kind, .i o.d.keep, .i o.d.torn, .i o.d.room, AV.str o.d.name, AV.str o.d.to, AV.bytes o.d.b, .sl (o.d.plan.map evA)]
instance : CellsN opJ 11 := ⟨fun _ => rfl⟩
instance : OneOK opJ := ⟨fun _ => rfl⟩
theorem cells_opJ (o : JOp) : (opJ o).cells = [.i o.kind, AV.bytes o.b, .sl (o.l.map AV.bytes), .i o.d.kind, .i o.d.keep, .i o.d.torn, .i o.d.room, AV.str o.d.name, AV.str o.d.to, AV.bytes o.d.b, .sl (o.d.plan.map evA)] := rfl
theorem agg_opV' (o : DOp) : AV.agg [.i o.kind, .i o.keep, .i o.torn, .i o.room, AV.str o.name, AV.str o.to, AV.bytes o.b, .sl (o.plan.map evA)] = opV o := rfl
theorem agg_opU (o : DOp) : AV.agg [.i o.kind, .i o.keep, .i o.torn, .i o.room, AV.str o.name, AV.str o.to, AV.sl (o.b.map byteA), .sl (o.plan.map evA)] = opV o := rfl
/-- What an argument may be. -/
structure BigJ (o : JOp) : Prop where
  b : o.b.length ≤ 140737488355328
  l : o.l.length ≤ 140737488355328
  ls : ∀ p ∈ o.l, p.length ≤ 140737488355328
  d : Big o.d
/-- How large an operation may be. -/
structure SmallJ (o : JOp) : Prop where
  b : o.b.length ≤ 140737488355328
  l : o.l.length ≤ 60
  ls : total o.l ≤ 70000
  d : Small o.d
theorem jfew_w (l : List JOp) (hl : l.length ≤ 140737488355328) (hbig : ∀ o ∈ l, BigJ o) : WF Tryz.prog cfg 5 [.sl (l.map opJ)] H (fun r H' => (∃ t, r = .b t ∧ (t = true → l.length ≤ 60 ∧ ∀ o ∈ l, SmallJ o)) ∧ H' = H) := by
  have hm : ∀ d, cfg.muF 5 d = (false) := fun _ => rfl
  have hz : ∀ d, cfg.fzF 5 d = (false) := fun _ => rfl
  have ht : ∀ d, cfg.tkF 5 d = (false) := fun _ => rfl
  have hr_ : ∀ g, cfg.raw g = (g == 68) := fun _ => rfl
  refine rF_fn rfl rfl Tryz.func5 rfl ?_
  repeat' first | simp (disch := first | omega | assumption | decide) only [go_sem, hm, hz, ht, hr_] | refine ifP_in (fun _ => ?_) fun _ => ?_
  refine rL_loop (σ := Nat) (fun i e K => K = H ∧ e 0 = .sl (l.map opJ) ∧ (∃ n : Int, e 4 = .i n ∧ 0 ≤ n ∧ n ≤ 280000) ∧ e 5 = .i i ∧ i ≤ l.length ∧ i ≤ 60 ∧ e 3 = .sl (((l.take i).map JOp.d).map opV) ∧ ∀ o ∈ l.take i, o.l.length ≤ 60 ∧ total o.l ≤ 70000) (fun i => l.length - i) 0 ?_ ?_
  · refine ⟨rfl, ?_, ⟨0, ?_, by omega, by omega⟩, ?_, by omega, by omega, ?_, by simp⟩
    all_goals first | (simp (disch := first | assumption | omega) only [go_sem]; done) | (simp (disch := first | assumption | omega) only [go_sem]; rfl)
  · rintro i e K ⟨hK, g0, ⟨n, g4, n0, n1⟩, g5, i1, i3, g3, i2⟩
    have hK := hK.symm
    subst hK
    by_cases hil : i < l.length
    · have hix := ix_at' hil
      have hs : l.take (i + 1) = l.take i ++ [l[i]] := List.take_succ_eq_append_getElem hil
      have hb := hbig _ (List.getElem_mem hil)
      have hlt : ((l.take i).map JOp.d).length = i := by simp; omega
      generalize l[i] = o at *
      have hone := OneOK.h (f := opV) o.d
      have hck := cellsOK_of (f := opV) (n := 8) o.d
      obtain ⟨b1, b2, b3, b4⟩ := hb
      by_cases h60 : i < 60
      · repeat' first | simp (disch := first | omega | assumption | decide) only [go_sem, hm, hz, ht, hr_, g0, g3, g4, g5, hix, cells_opJ, wdl, bind_some_, map_some_, oneD_fold] | refine ifP_in (fun _ => ?_) fun _ => ?_
        refine rF_use (ltexts_w o.l b2 b3) ?_
        rintro _ K1 ⟨t, rfl, rfl, ht1⟩
        cases t with
        | false =>
          repeat' first | simp (disch := first | omega | assumption | decide) only [go_sem, hm, hz, ht, hr_, g0, g3, g4, g5, wdl, bind_some_, map_some_, oneD_fold] | refine ifP_in (fun _ => ?_) fun _ => ?_
          exact ⟨false, rfl, by simp⟩
        | true =>
          obtain ⟨c1, c2⟩ := ht1 rfl
          repeat' first | simp (disch := first | omega | assumption | decide) only [go_sem, hm, hz, ht, hr_, g0, g3, g4, g5, hix, cells_opJ, agg_opV', agg_opU, hck, AV.bytes, wdl, bind_some_, map_some_, oneD_fold] | refine ifP_in (fun _ => ?_) fun _ => ?_
          refine ⟨i + 1, ⟨⟨_, rfl, by omega, by omega⟩, rfl, by omega, by omega, ?_, fun p hp => ?_⟩, by omega⟩
          · rw [hs]; simp
          · rw [hs, List.mem_append, List.mem_singleton] at hp
            rcases hp with hp | rfl
            · exact i2 p hp
            · exact ⟨c1, c2⟩
      · have hgt : ¬ ((l.length : Int) ≤ 60) := by omega
        repeat' first | simp (disch := first | omega | assumption | decide) only [go_sem, hm, hz, ht, hr_, g0, g3, g4, g5, wdl, bind_some_, map_some_, oneD_fold] | refine ifP_in (fun _ => ?_) fun _ => ?_
        exact ⟨false, rfl, by simp⟩
    · have : i = l.length := by omega
      subst this
      rw [List.take_length] at i2 g3
      have hle : (l.length : Int) ≤ 60 := by omega
      by_cases hn : n ≤ 70000
      · repeat' first | simp (disch := first | omega | assumption | decide) only [go_sem, hm, hz, ht, hr_, g0, g3, g4, g5, wdl, bind_some_, map_some_, oneD_fold] | refine ifP_in (fun _ => ?_) fun _ => ?_
        refine rF_use (few_w (l.map JOp.d) (by simp; omega) (fun o ho => ?_)) ?_
        · obtain ⟨p, hp, rfl⟩ := List.mem_map.1 ho
          exact (hbig p hp).d
        · rintro _ K1 ⟨⟨t, rfl, ht1⟩, rfl⟩
          repeat' first | simp (disch := first | omega | assumption | decide) only [go_sem, hm, hz, ht, hr_, wdl, bind_some_, map_some_, oneD_fold] | refine ifP_in (fun _ => ?_) fun _ => ?_
          refine ⟨_, rfl, fun h => ⟨by omega, fun o ho => ⟨(hbig o ho).b, (i2 o ho).1, (i2 o ho).2, ?_⟩⟩⟩
          exact (ht1 (by simpa using h)).2 _ (List.mem_map_of_mem ho)
      · repeat' first | simp (disch := first | omega | assumption | decide) only [go_sem, hm, hz, ht, hr_, g0, g3, g4, g5, wdl, bind_some_, map_some_, oneD_fold] | refine ifP_in (fun _ => ?_) fun _ => ?_
        exact ⟨false, rfl, by simp⟩
end Jn
end Go.Proofs
