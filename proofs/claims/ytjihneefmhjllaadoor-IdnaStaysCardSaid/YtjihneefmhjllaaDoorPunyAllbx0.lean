/- Walks through the small functions of the chapter on signs by few letters. -/
import Derived.Test.YtjihneefmhjllaaDoorWR5D
import Derived.Test.YtjihneefmhjllaaDoorLvAll9
import Derived.Test.YtjihneefmhjllaaDoorPunyAllax0
set_option linter.unusedVariables false
set_option linter.unusedSimpArgs false
namespace Go.Proofs
open Go.Lv
namespace Pu
variable {H : Heap}

theorem thr_w (k b : Int) (h1 : -1000000000000000 < k ∧ k < 1000000000000000) (h2 : -1000000000000 < b ∧ b < 1000000000000) : WF Tryd.prog cfg 71 [.i k, .i b] H (fun r H' => r = .i (Puny.thr k b) ∧ H' = H) := by
  have hm : ∀ d, cfg.muF 71 d = (false) := fun _ => rfl
  have hz : ∀ d, cfg.fzF 71 d = (false) := fun _ => rfl
  have ht : ∀ d, cfg.tkF 71 d = (false) := fun _ => rfl
  have hr_ : ∀ g, cfg.raw g = (g == 60 || g == 63) := fun _ => rfl
  refine rF_fn rfl rfl Tryd.func71 rfl ?_
  repeat' (first | simp (disch := first | omega | assumption | decide) only [go_sem, hm, hz, ht, hr_] | refine ifP_in (fun _ => ?_) (fun _ => ?_))
  rfl
theorem thr_r (k b : Int) (h1 : -1000000000000000 < k ∧ k < 1000000000000000) (h2 : -1000000000000 < b ∧ b < 1000000000000) : WF Tryd.prog cfg 51 [.i k, .i b] H (fun r H' => r = .i (Puny.thr k b) ∧ H' = H) := by
  have hm : ∀ d, cfg.muF 51 d = (false) := fun _ => rfl
  have hz : ∀ d, cfg.fzF 51 d = (false) := fun _ => rfl
  have ht : ∀ d, cfg.tkF 51 d = (false) := fun _ => rfl
  have hr_ : ∀ g, cfg.raw g = (g == 60 || g == 63) := fun _ => rfl
  refine rF_fn rfl rfl Tryd.func51 rfl ?_
  repeat' (first | simp (disch := first | omega | assumption | decide) only [go_sem, hm, hz, ht, hr_] | refine ifP_in (fun _ => ?_) (fun _ => ?_))
  rfl
theorem scalar_w (c : Int) : WF Tryd.prog cfg 44 [.i c] H (fun r H' => r = .b (Puny.scalar c) ∧ H' = H) := by
  have hm : ∀ d, cfg.muF 44 d = (false) := fun _ => rfl
  have hz : ∀ d, cfg.fzF 44 d = (false) := fun _ => rfl
  have ht : ∀ d, cfg.tkF 44 d = (false) := fun _ => rfl
  have hr_ : ∀ g, cfg.raw g = (g == 60 || g == 63) := fun _ => rfl
  refine rF_fn rfl rfl Tryd.func44 rfl ?_
  repeat' (first | simp (disch := first | omega | assumption | decide) only [go_sem, hm, hz, ht, hr_] | refine ifP_in (fun _ => ?_) (fun _ => ?_))
  all_goals (simp only [AV.v.injEq, Value.bool.injEq]; exact Bool.eq_iff_iff.2 (by simp [Puny.scalar]; omega))
theorem scalar_r (c : Int) : WF Tryd.prog cfg 49 [.i c] H (fun r H' => r = .b (Puny.scalar c) ∧ H' = H) := by
  have hm : ∀ d, cfg.muF 49 d = (false) := fun _ => rfl
  have hz : ∀ d, cfg.fzF 49 d = (false) := fun _ => rfl
  have ht : ∀ d, cfg.tkF 49 d = (false) := fun _ => rfl
  have hr_ : ∀ g, cfg.raw g = (g == 60 || g == 63) := fun _ => rfl
  refine rF_fn rfl rfl Tryd.func49 rfl ?_
  repeat' (first | simp (disch := first | omega | assumption | decide) only [go_sem, hm, hz, ht, hr_] | refine ifP_in (fun _ => ?_) (fun _ => ?_))
  all_goals (simp only [AV.v.injEq, Value.bool.injEq]; exact Bool.eq_iff_iff.2 (by simp [Puny.scalar]; omega))
theorem ltr_w (d : Int) (h1 : 0 ≤ d ∧ d < 36) : WF Tryd.prog cfg 72 [.i d] H (fun r H' => r = byteA (Puny.ltr d) ∧ H' = H) := by
  have hm : ∀ d, cfg.muF 72 d = (false) := fun _ => rfl
  have hz : ∀ d, cfg.fzF 72 d = (false) := fun _ => rfl
  have ht : ∀ d, cfg.tkF 72 d = (false) := fun _ => rfl
  have hr_ : ∀ g, cfg.raw g = (g == 60 || g == 63) := fun _ => rfl
  refine rF_fn rfl rfl Tryd.func72 rfl ?_
  repeat' (first | simp (disch := first | omega | assumption | decide) only [go_sem, hm, hz, ht, hr_] | refine ifP_in (fun _ => ?_) (fun _ => ?_))
  all_goals simp [Puny.ltr, byteA, *]
  all_goals omega
theorem ltr_r (d : Int) (h1 : 0 ≤ d ∧ d < 36) : WF Tryd.prog cfg 52 [.i d] H (fun r H' => r = byteA (Puny.ltr d) ∧ H' = H) := by
  have hm : ∀ d, cfg.muF 52 d = (false) := fun _ => rfl
  have hz : ∀ d, cfg.fzF 52 d = (false) := fun _ => rfl
  have ht : ∀ d, cfg.tkF 52 d = (false) := fun _ => rfl
  have hr_ : ∀ g, cfg.raw g = (g == 60 || g == 63) := fun _ => rfl
  refine rF_fn rfl rfl Tryd.func52 rfl ?_
  repeat' (first | simp (disch := first | omega | assumption | decide) only [go_sem, hm, hz, ht, hr_] | refine ifP_in (fun _ => ?_) (fun _ => ?_))
  all_goals simp [Puny.ltr, byteA, *]
  all_goals omega
theorem dgt_w (c : UInt8) : WF Tryd.prog cfg 78 [byteA c] H (fun r H' => r = .i (Puny.dgt c) ∧ H' = H) := by
  have hc := c.toNat_lt
  have hm : ∀ d, cfg.muF 78 d = (false) := fun _ => rfl
  have hz : ∀ d, cfg.fzF 78 d = (false) := fun _ => rfl
  have ht : ∀ d, cfg.tkF 78 d = (false) := fun _ => rfl
  have hr_ : ∀ g, cfg.raw g = (g == 60 || g == 63) := fun _ => rfl
  refine rF_fn rfl rfl Tryd.func78 rfl ?_
  repeat' (first | simp (disch := first | omega | assumption | decide) only [go_sem, hm, hz, ht, hr_] | refine ifP_in (fun _ => ?_) (fun _ => ?_))
  all_goals (simp only [AV.v.injEq, Value.int.injEq, true_and, Puny.dgt]; omega)
theorem val_r (c : UInt8) : WF Tryd.prog cfg 54 [byteA c] H (fun r H' => r = .i (if Puny.dgt c = 36 then -1 else Puny.dgt c) ∧ H' = H) := by
  have hc := c.toNat_lt
  have hm : ∀ d, cfg.muF 54 d = (false) := fun _ => rfl
  have hz : ∀ d, cfg.fzF 54 d = (false) := fun _ => rfl
  have ht : ∀ d, cfg.tkF 54 d = (false) := fun _ => rfl
  have hr_ : ∀ g, cfg.raw g = (g == 60 || g == 63) := fun _ => rfl
  refine rF_fn rfl rfl Tryd.func54 rfl ?_
  repeat' (first | simp (disch := first | omega | assumption | decide) only [go_sem, hm, hz, ht, hr_] | refine ifP_in (fun _ => ?_) (fun _ => ?_))
  all_goals (simp only [AV.v.injEq, Value.int.injEq, true_and, Puny.dgt]; omega)
end Pu
end Go.Proofs
/- Walks through adapt. -/
set_option linter.unusedVariables false
set_option linter.unusedSimpArgs false
namespace Go.Proofs
open Go.Lv
namespace Pu
variable {H : Heap}

theorem adaptL_bnd (d k : Int) (h : 0 ≤ d) : 0 ≤ (Puny.adaptL d k).1 ∧ (Puny.adaptL d k).1 ≤ 455 ∧ k ≤ (Puny.adaptL d k).2 := by
  fun_induction Puny.adaptL d k with
  | case1 d k h1 ih => have := ih (by omega); omega
  | case2 d k h1 => simp; omega

theorem adapt_w (delta n : Int) (b : Bool) (h0 : 0 ≤ delta ∧ delta < 1000000000000) (h1 : 0 < n ∧ n < 1000000) : WF Tryd.prog cfg 48 [.i delta, .i n, .b b] H (fun r H' => r = .i (Puny.adapt delta n b) ∧ H' = H) := by
  have hd : ∀ x : Int, 0 ≤ x → 0 ≤ x / n ∧ x / n ≤ x := fun x hx => ⟨Int.ediv_nonneg hx (by omega), Int.ediv_le_self _ hx⟩
  have hd1 := hd (delta / 700) (by omega)
  have hd2 := hd (delta / 2) (by omega)
  have he : ∀ x : Int, 0 ≤ x → 0 ≤ 36 * x / (x + 38) ∧ 36 * x / (x + 38) ≤ 36 * x := fun x hx => ⟨Int.ediv_nonneg (by omega) (by omega), Int.ediv_le_self _ (by omega)⟩
  clear hd
  have hm : ∀ d, cfg.muF 48 d = (false) := fun _ => rfl
  have hz : ∀ d, cfg.fzF 48 d = (false) := fun _ => rfl
  have ht : ∀ d, cfg.tkF 48 d = (false) := fun _ => rfl
  have hr_ : ∀ g, cfg.raw g = (g == 60 || g == 63) := fun _ => rfl
  refine rF_fn rfl rfl Tryd.func48 rfl ?_
  repeat' (first | simp (disch := first | omega | assumption | decide) only [go_sem, hm, hz, ht, hr_, Nat.reducePow] | refine ifP_in (fun _ => ?_) (fun _ => ?_))
  · refine rL_loop (σ := Int × Int) (fun s e H' => H' = H ∧ e 0 = .i s.1 ∧ e 7 = .i s.2 ∧ 0 ≤ s.1 ∧ 0 ≤ s.2 ∧ s.2 + s.1 < 9000000000000 ∧ Puny.adaptL s.1 s.2 = Puny.adaptL (delta / 700 + delta / 700 / n) 0) (fun s => s.1.toNat) (delta / 700 + delta / 700 / n, 0) ?_ ?_
    · refine ⟨rfl, ?_, ?_, by omega, by omega, by omega, rfl⟩
      · simp (disch := first | omega | assumption | decide) only [go_sem, hm, hz, ht, hr_]
      · simp (disch := first | omega | assumption | decide) only [go_sem, hm, hz, ht, hr_]
    · rintro ⟨d, k⟩ e H' ⟨rfl, g0, g7, g1, g3, g4, g5⟩
      simp only at g0 g7 g1 g3 g4 g5
      rw [Puny.adaptL] at g5
      have he := he d g1
      repeat' (first | simp (disch := first | omega | assumption | decide) only [go_sem, hm, hz, ht, hr_, g0, g7] | refine ifP_in (fun _ => ?_) (fun _ => ?_))
      · rw [dif_pos (by assumption)] at g5
        exact ⟨(d / 35, k + 36), ⟨rfl, rfl, by simp only; omega, by simp only; omega, by simp only; omega, g5⟩, by simp only; omega⟩
      · rw [dif_neg (by assumption)] at g5
        have hb : b = true := by assumption
        simp only [AV.v.injEq, Value.int.injEq, true_and, Puny.adapt, hb, if_true, ← g5]
  · refine rL_loop (σ := Int × Int) (fun s e H' => H' = H ∧ e 0 = .i s.1 ∧ e 7 = .i s.2 ∧ 0 ≤ s.1 ∧ 0 ≤ s.2 ∧ s.2 + s.1 < 9000000000000 ∧ Puny.adaptL s.1 s.2 = Puny.adaptL (delta / 2 + delta / 2 / n) 0) (fun s => s.1.toNat) (delta / 2 + delta / 2 / n, 0) ?_ ?_
    · refine ⟨rfl, ?_, ?_, by omega, by omega, by omega, rfl⟩
      · simp (disch := first | omega | assumption | decide) only [go_sem, hm, hz, ht, hr_]
      · simp (disch := first | omega | assumption | decide) only [go_sem, hm, hz, ht, hr_]
    · rintro ⟨d, k⟩ e H' ⟨rfl, g0, g7, g1, g3, g4, g5⟩
      simp only at g0 g7 g1 g3 g4 g5
      rw [Puny.adaptL] at g5
      have he := he d g1
      repeat' (first | simp (disch := first | omega | assumption | decide) only [go_sem, hm, hz, ht, hr_, g0, g7] | refine ifP_in (fun _ => ?_) (fun _ => ?_))
      · rw [dif_pos (by assumption)] at g5
        exact ⟨(d / 35, k + 36), ⟨rfl, rfl, by simp only; omega, by simp only; omega, by simp only; omega, g5⟩, by simp only; omega⟩
      · rw [dif_neg (by assumption)] at g5
        have hb : b = false := by simpa using (by assumption : ¬ b = true)
        simp only [AV.v.injEq, Value.int.injEq, true_and, Puny.adapt, hb, Bool.false_eq_true, if_false, ← g5]
theorem adapt_r (delta n : Int) (b : Bool) (h0 : 0 ≤ delta ∧ delta < 1000000000000) (h1 : 0 < n ∧ n < 1000000) : WF Tryd.prog cfg 53 [.i delta, .i n, .b b] H (fun r H' => r = .i (Puny.adapt delta n b) ∧ H' = H) := by
  have hd : ∀ x : Int, 0 ≤ x → 0 ≤ x / n ∧ x / n ≤ x := fun x hx => ⟨Int.ediv_nonneg hx (by omega), Int.ediv_le_self _ hx⟩
  have hd1 := hd (delta / 700) (by omega)
  have hd2 := hd (delta / 2) (by omega)
  have he : ∀ x : Int, 0 ≤ x → 0 ≤ 36 * x / (x + 38) ∧ 36 * x / (x + 38) ≤ 36 * x := fun x hx => ⟨Int.ediv_nonneg (by omega) (by omega), Int.ediv_le_self _ (by omega)⟩
  clear hd
  have hm : ∀ d, cfg.muF 53 d = (false) := fun _ => rfl
  have hz : ∀ d, cfg.fzF 53 d = (false) := fun _ => rfl
  have ht : ∀ d, cfg.tkF 53 d = (false) := fun _ => rfl
  have hr_ : ∀ g, cfg.raw g = (g == 60 || g == 63) := fun _ => rfl
  refine rF_fn rfl rfl Tryd.func53 rfl ?_
  repeat' (first | simp (disch := first | omega | assumption | decide) only [go_sem, hm, hz, ht, hr_, Nat.reducePow] | refine ifP_in (fun _ => ?_) (fun _ => ?_))
  · refine rL_loop (σ := Int × Int) (fun s e H' => H' = H ∧ e 0 = .i s.1 ∧ e 7 = .i s.2 ∧ 0 ≤ s.1 ∧ 0 ≤ s.2 ∧ s.2 + s.1 < 9000000000000 ∧ Puny.adaptL s.1 s.2 = Puny.adaptL (delta / 700 + delta / 700 / n) 0) (fun s => s.1.toNat) (delta / 700 + delta / 700 / n, 0) ?_ ?_
    · refine ⟨rfl, ?_, ?_, by omega, by omega, by omega, rfl⟩
      · simp (disch := first | omega | assumption | decide) only [go_sem, hm, hz, ht, hr_]
      · simp (disch := first | omega | assumption | decide) only [go_sem, hm, hz, ht, hr_]
    · rintro ⟨d, k⟩ e H' ⟨rfl, g0, g7, g1, g3, g4, g5⟩
      simp only at g0 g7 g1 g3 g4 g5
      rw [Puny.adaptL] at g5
      have he := he d g1
      repeat' (first | simp (disch := first | omega | assumption | decide) only [go_sem, hm, hz, ht, hr_, g0, g7] | refine ifP_in (fun _ => ?_) (fun _ => ?_))
      · rw [dif_pos (by assumption)] at g5
        exact ⟨(d / 35, k + 36), ⟨rfl, rfl, by simp only; omega, by simp only; omega, by simp only; omega, g5⟩, by simp only; omega⟩
      · rw [dif_neg (by assumption)] at g5
        have hb : b = true := by assumption
        simp only [AV.v.injEq, Value.int.injEq, true_and, Puny.adapt, hb, if_true, ← g5]
  · refine rL_loop (σ := Int × Int) (fun s e H' => H' = H ∧ e 0 = .i s.1 ∧ e 7 = .i s.2 ∧ 0 ≤ s.1 ∧ 0 ≤ s.2 ∧ s.2 + s.1 < 9000000000000 ∧ Puny.adaptL s.1 s.2 = Puny.adaptL (delta / 2 + delta / 2 / n) 0) (fun s => s.1.toNat) (delta / 2 + delta / 2 / n, 0) ?_ ?_
    · refine ⟨rfl, ?_, ?_, by omega, by omega, by omega, rfl⟩
      · simp (disch := first | omega | assumption | decide) only [go_sem, hm, hz, ht, hr_]
      · simp (disch := first | omega | assumption | decide) only [go_sem, hm, hz, ht, hr_]
    · rintro ⟨d, k⟩ e H' ⟨rfl, g0, g7, g1, g3, g4, g5⟩
      simp only at g0 g7 g1 g3 g4 g5
      rw [Puny.adaptL] at g5
      have he := he d g1
      repeat' (first | simp (disch := first | omega | assumption | decide) only [go_sem, hm, hz, ht, hr_, g0, g7] | refine ifP_in (fun _ => ?_) (fun _ => ?_))
      · rw [dif_pos (by assumption)] at g5
        exact ⟨(d / 35, k + 36), ⟨rfl, rfl, by simp only; omega, by simp only; omega, by simp only; omega, g5⟩, by simp only; omega⟩
      · rw [dif_neg (by assumption)] at g5
        have hb : b = false := by simpa using (by assumption : ¬ b = true)
        simp only [AV.v.injEq, Value.int.injEq, true_and, Puny.adapt, hb, Bool.false_eq_true, if_false, ← g5]
end Pu
end Go.Proofs
/- Walks through next. -/
set_option linter.unusedVariables false
set_option linter.unusedSimpArgs false
namespace Go.Proofs
open Go.Lv
namespace Pu
variable {H : Heap}

theorem foldl_take {α β : Type} [Inhabited α] (f : β → α → β) (b : β) (l : List α) (i : Nat) (h : i < l.length) : (l.take (i + 1)).foldl f b = f ((l.take i).foldl f b) (ix l (i : Int)) := by
  rw [List.take_add_one, List.foldl_append]
  simp [ix, List.getD_eq_getElem?_getD, List.getElem?_eq_getElem h]

theorem next_w (l : List Int) (n : Int) (hl : l.length < 1000000) : WF Tryd.prog cfg 46 [.sl (l.map fun n => AV.v (.int .i64 n)), .i n] H (fun r H' => r = .i (Puny.nxt l n) ∧ H' = H) := by
  have hm : ∀ d, cfg.muF 46 d = (false) := fun _ => rfl
  have hz : ∀ d, cfg.fzF 46 d = (false) := fun _ => rfl
  have ht : ∀ d, cfg.tkF 46 d = (false) := fun _ => rfl
  have hr_ : ∀ g, cfg.raw g = (g == 60 || g == 63) := fun _ => rfl
  refine rF_fn rfl rfl Tryd.func46 rfl ?_
  repeat' (first | simp (disch := first | omega | assumption | decide) only [go_sem, hm, hz, ht, hr_] | refine ifP_in (fun _ => ?_) (fun _ => ?_))
  refine rL_loop (σ := Nat) (fun i e H' => H' = H ∧ e 1 = .i n ∧ e 8 = .sl (l.map fun n => AV.v (.int .i64 n)) ∧ e 9 = .i l.length ∧ e 10 = .i i ∧ i ≤ l.length ∧ e 5 = .i ((l.take i).foldl (Puny.nx n) 2147483647)) (fun i => l.length - i) 0 ?_ ?_
  · refine ⟨rfl, ?_, ?_, ?_, ?_, by omega, ?_⟩ <;> simp (disch := first | assumption | omega) only [go_sem] <;> rfl
  · rintro i e H' ⟨rfl, g1, g8, g9, g10, gi, g5⟩
    repeat' (first | simp (disch := first | omega | assumption | decide) only [go_sem, hm, hz, ht, hr_, g1, g8, g9, g10, g5] | refine ifP_in (fun _ => ?_) (fun _ => ?_))
    · refine ⟨i + 1, ⟨by simp, by omega, ?_⟩, by omega⟩
      rw [foldl_take _ _ _ _ (by omega), Puny.nx, if_pos (by assumption)]
    · refine ⟨i + 1, ⟨by simp, by omega, ?_⟩, by omega⟩
      rw [foldl_take _ _ _ _ (by omega), Puny.nx, if_neg (by assumption)]
    · rw [List.take_of_length_le (by omega)]; rfl
end Pu
end Go.Proofs
/- Walks through number. -/
set_option linter.unusedVariables false
set_option linter.unusedSimpArgs false
namespace Go.Proofs
open Go.Lv
namespace Pu
variable {H : Heap}

theorem number_w (b : List UInt8) (q bias : Int) (hb : b.length < 1000000) (hq : 0 ≤ q ∧ q < 1000000000000) (hbi : -1000000 < bias ∧ bias < 1000000) : WF Tryd.prog cfg 47 [.sl (b.map byteA), .i q, .i bias] H (fun r H' => r = .sl ((b ++ Puny.numL q 36 bias).map byteA) ∧ H' = H) := by
  have hm : ∀ d, cfg.muF 47 d = (false) := fun _ => rfl
  have hz : ∀ d, cfg.fzF 47 d = (false) := fun _ => rfl
  have ht : ∀ d, cfg.tkF 47 d = (false) := fun _ => rfl
  have hr_ : ∀ g, cfg.raw g = (g == 60 || g == 63) := fun _ => rfl
  refine rF_fn rfl rfl Tryd.func47 rfl ?_
  repeat' (first | simp (disch := first | omega | assumption | decide) only [go_sem, hm, hz, ht, hr_] | refine ifP_in (fun _ => ?_) (fun _ => ?_))
  refine rL_loop (σ := List UInt8 × Int × Int) (fun s e H' => H' = H ∧ e 0 = .sl (s.1.map byteA) ∧ e 1 = .i s.2.1 ∧ e 2 = .i bias ∧ e 7 = .i s.2.2 ∧ 0 ≤ s.2.1 ∧ s.2.1 < 1000000000000 ∧ 0 ≤ s.2.2 ∧ s.2.2 + 36 * s.2.1 < 36000000000036 + 36 ∧ (s.1.length : Int) + s.2.1 < 1000000 + 1000000000000 ∧ s.1 ++ Puny.numL s.2.1 s.2.2 bias = b ++ Puny.numL q 36 bias) (fun s => s.2.1.toNat) (b, q, 36) ?_ ?_
  · refine ⟨rfl, ?_, ?_, ?_, ?_, by simp only; omega, by simp only; omega, by simp only; omega, by simp only; omega, by simp only; omega, rfl⟩ <;> simp (disch := first | assumption | omega) only [go_sem]
  · rintro ⟨c, q, k⟩ e H' ⟨rfl, g0, g1, g2, g7, i1, i2, i3, i4, i5, i6⟩
    simp only at g0 g1 g2 g7 i1 i2 i3 i4 i5 i6
    repeat' (first | simp (disch := first | omega | assumption | decide) only [go_sem, hm, hz, ht, hr_, g0, g1, g2, g7] | refine ifP_in (fun _ => ?_) (fun _ => ?_))
    refine rF_use (thr_w k bias (by omega) (by omega)) ?_
    rintro _ _ ⟨rfl, rfl⟩
    have t1 := Puny.thr_bnd k bias
    rw [Puny.numL] at i6
    generalize Puny.thr k bias = t at *
    have m1 := Int.emod_nonneg (q - t) (by omega : 36 - t ≠ 0)
    have m2 := Int.emod_lt_of_pos (q - t) (by omega : 0 < 36 - t)
    repeat' (first | simp (disch := first | omega | assumption | decide) only [go_sem, hm, hz, ht, hr_, g0, g1, g2, g7] | refine ifP_in (fun _ => ?_) (fun _ => ?_))
    · refine rF_use (ltr_w q (by omega)) ?_
      rintro _ _ ⟨rfl, rfl⟩
      repeat' (first | simp (disch := first | omega | assumption | decide) only [go_sem, hm, hz, ht, hr_, g0, g1, g2, g7] | refine ifP_in (fun _ => ?_) (fun _ => ?_))
      rw [dif_pos (by assumption)] at i6
      rw [i6]
    · refine rF_use (ltr_w _ (by omega)) ?_
      rintro _ _ ⟨rfl, rfl⟩
      have m3 := Puny.div_lt_self' t1.1 t1.2 (show t ≤ q by omega)
      rw [dif_neg (by assumption)] at i6
      repeat' (first | simp (disch := first | omega | assumption | decide) only [go_sem, hm, hz, ht, hr_, g0, g1, g2, g7] | refine ifP_in (fun _ => ?_) (fun _ => ?_))
      refine ⟨(c ++ [Puny.ltr (t + (q - t) % (36 - t))], (q - t) / (36 - t), k + 36), ⟨rfl, rfl, rfl, by simp only; omega, by simp only; omega, by simp only; omega, by simp only; omega, by simp only [List.length_append, List.length_singleton]; omega, ?_⟩, by simp only; omega⟩
      rw [← i6]; simp
end Pu
end Go.Proofs
/- Walks through delta. -/
set_option linter.unusedVariables false
set_option linter.unusedSimpArgs false
namespace Go.Proofs
open Go.Lv
namespace Pu
variable {H : Heap}

theorem dgt_bnd (c : UInt8) : 0 ≤ Puny.dgt c ∧ Puny.dgt c ≤ 36 := by
  unfold Puny.dgt
  split
  · omega
  · split
    · omega
    · split <;> omega

def deltaA (r : Option (Int × Int)) : AV := match r with
  | some (x, e) => .tup [.i x, .i e, .b true]
  | none => .tup [.i 0, .i 0, .b false]

theorem delta_w (s : List UInt8) (a i bias : Int) (hs : s.length < 1000000) (ha : 0 ≤ a ∧ a ≤ s.length) (hi : 0 ≤ i ∧ i ≤ 2147483647) (hb : -1000000 < bias ∧ bias < 1000000) :
    WF Tryd.prog cfg 59 [.str s, .i a, .i i, .i bias] H (fun r H' => r = deltaA (Puny.deltaR (s.drop a.toNat) a i 1 36 bias) ∧ H' = H) := by
  have hm : ∀ d, cfg.muF 59 d = (false) := fun _ => rfl
  have hz : ∀ d, cfg.fzF 59 d = (false) := fun _ => rfl
  have ht : ∀ d, cfg.tkF 59 d = (false) := fun _ => rfl
  have hr_ : ∀ g, cfg.raw g = (g == 60 || g == 63) := fun _ => rfl
  refine rF_fn rfl rfl Tryd.func59 rfl ?_
  repeat' (first | simp (disch := first | omega | assumption | decide) only [go_sem, hm, hz, ht, hr_] | refine ifP_in (fun _ => ?_) (fun _ => ?_))
  refine rL_loop (σ := Int × Int × Int × Int) (fun z e H' => H' = H ∧ e 0 = .str s ∧ e 1 = .i z.1 ∧ e 2 = .i z.2.1 ∧ e 3 = .i bias ∧ e 11 = .i z.2.2.1 ∧ e 12 = .i z.2.2.2 ∧ 0 ≤ z.1 ∧ z.1 ≤ s.length ∧ 0 ≤ z.2.1 ∧ z.2.1 ≤ 2147483647 ∧ 1 ≤ z.2.2.1 ∧ z.2.2.1 ≤ 2147483647 ∧ 0 ≤ z.2.2.2 ∧ z.2.2.2 ≤ 36 + 36 * z.1 ∧ Puny.deltaR (s.drop z.1.toNat) z.1 z.2.1 z.2.2.1 z.2.2.2 bias = Puny.deltaR (s.drop a.toNat) a i 1 36 bias) (fun z => s.length - z.1.toNat) (a, i, 1, 36) ?_ ?_
  · refine ⟨rfl, ?_, ?_, ?_, ?_, ?_, ?_, by simp only; omega, by simp only; omega, by simp only; omega, by simp only; omega, by simp only; omega, by simp only; omega, by simp only; omega, by simp only; omega, rfl⟩ <;> simp (disch := first | assumption | omega) only [go_sem]
  · rintro ⟨at_, i, w, k⟩ e H' ⟨rfl, g0, g1, g2, g3, g11, g12, i1, i2, i3, i4, i5, i6, i7, i8, i9⟩
    simp only at g0 g1 g2 g3 g11 g12 i1 i2 i3 i4 i5 i6 i7 i8 i9
    rw [← i9]
    clear i9
    repeat' (first | simp (disch := first | omega | assumption | decide) only [go_sem, hm, hz, ht, hr_, g0, g1, g2, g3, g11, g12] | refine ifP_in (fun _ => ?_) (fun _ => ?_))
    · rw [List.drop_of_length_le (by omega)]; rfl
    · have hlt : at_.toNat < s.length := by omega
      have hdrop : s.drop at_.toNat = ix s at_ :: s.drop (at_ + 1).toNat := by
        rw [List.drop_eq_getElem_cons hlt, show (at_ + 1).toNat = at_.toNat + 1 by omega]
        simp [ix, List.getD_eq_getElem?_getD, List.getElem?_eq_getElem hlt]
      rw [hdrop]
      generalize ix s at_ = c
      refine rF_use (dgt_w c) ?_
      rintro _ _ ⟨rfl, rfl⟩
      have d1 := dgt_bnd c
      rw [Puny.deltaR]
      generalize Puny.dgt c = d at *
      have q1 : 0 ≤ (2147483647 - i) / w := Int.ediv_nonneg (by omega) (by omega)
      have q2 : (2147483647 - i) / w ≤ 2147483647 - i := Int.ediv_le_self _ (by omega)
      repeat' (first | simp (disch := first | omega | assumption | decide) only [go_sem, hm, hz, ht, hr_, g0, g1, g2, g3, g11, g12] | refine ifP_in (fun _ => ?_) (fun _ => ?_))
      · rw [if_pos (by omega)]; rfl
      · rename_i hd1 hd2 _
        refine rF_use (thr_w k bias (by omega) (by omega)) ?_
        rintro _ _ ⟨rfl, rfl⟩
        have t1 := Puny.thr_bnd k bias
        rw [if_neg (by omega)]
        generalize Puny.thr k bias = t at *
        have q3 : d * w ≤ 2147483647 - i := Int.le_trans (Int.mul_le_mul_of_nonneg_right (by omega : d ≤ (2147483647 - i) / w) (by omega)) (Int.ediv_mul_le _ (by omega))
        have q4 : 0 ≤ d * w := Int.mul_nonneg (by omega) (by omega)
        have q5 : 0 ≤ 2147483647 / (36 - t) := Int.ediv_nonneg (by omega) (by omega)
        have q6 : 2147483647 / (36 - t) ≤ 2147483647 := Int.ediv_le_self _ (by omega)
        repeat' (first | simp (disch := first | omega | assumption | decide) only [go_sem, hm, hz, ht, hr_, g0, g1, g2, g3, g11, g12] | refine ifP_in (fun _ => ?_) (fun _ => ?_))
        · rw [if_pos (by assumption)]; rfl
        · rw [if_neg (by assumption), if_pos (by assumption)]; rfl
        · rw [if_neg (by assumption), if_neg (by assumption)]
          have q7 : w * (36 - t) ≤ 2147483647 := Int.le_trans (Int.mul_le_mul_of_nonneg_right (by omega : w ≤ 2147483647 / (36 - t)) (by omega)) (Int.ediv_mul_le _ (by omega))
          have q8 : 1 * 1 ≤ w * (36 - t) := Int.mul_le_mul i5 (by omega) (by omega) (by omega)
          repeat' (first | simp (disch := first | omega | assumption | decide) only [go_sem, hm, hz, ht, hr_, g0, g1, g2, g3, g11, g12] | refine ifP_in (fun _ => ?_) (fun _ => ?_))
          exact ⟨(at_ + 1, i + d * w, w * (36 - t), k + 36), ⟨rfl, rfl, rfl, rfl, by simp only; omega, by simp only; omega, by simp only; omega, by simp only; omega, by simp only; omega, by simp only; omega, by simp only; omega, by simp only; omega, rfl⟩, by simp only; omega⟩
      · rw [if_pos (by omega)]; rfl
end Pu
end Go.Proofs
/- Walks through the search for a byte from behind. -/
set_option linter.unusedVariables false
set_option linter.unusedSimpArgs false
namespace Go.Proofs
open Go.Lv
namespace Pu
variable {H : Heap}

theorem ix_getD (s : List UInt8) (n : Nat) : ix s ((n : Int)) = s.getD n 0 := by simp [ix]; rfl

theorem lastStr_w (s : List UInt8) (c : UInt8) (hs : s.length < 1000000) : WF Tryd.prog cfg 77 [.str s, byteA c] H (fun r H' => r = .i (Puny.lastIx s c s.length) ∧ H' = H) := by
  have hm : ∀ d, cfg.muF 77 d = (false) := fun _ => rfl
  have hz : ∀ d, cfg.fzF 77 d = (false) := fun _ => rfl
  have ht : ∀ d, cfg.tkF 77 d = (false) := fun _ => rfl
  have hr_ : ∀ g, cfg.raw g = (g == 60 || g == 63) := fun _ => rfl
  refine rF_fn rfl rfl Tryd.func77 rfl ?_
  repeat' (first | simp (disch := first | omega | assumption | decide) only [go_sem, hm, hz, ht, hr_] | refine ifP_in (fun _ => ?_) (fun _ => ?_))
  refine rL_loop (σ := Nat) (fun n e H' => H' = H ∧ e 0 = .str s ∧ e 1 = byteA c ∧ e 5 = .i ((n : Int) - 1) ∧ n ≤ s.length ∧ Puny.lastIx s c n = Puny.lastIx s c s.length) (fun n => n) s.length ?_ ?_
  · refine ⟨rfl, ?_, ?_, ?_, by omega, rfl⟩ <;> simp (disch := first | assumption | omega) only [go_sem]
  · rintro n e H' ⟨rfl, g0, g1, g5, i1, i2⟩
    repeat' (first | simp (disch := first | omega | assumption | decide) only [go_sem, hm, hz, ht, hr_, g0, g1, g5] | refine ifP_in (fun _ => ?_) (fun _ => ?_))
    · obtain ⟨m, rfl⟩ : ∃ m, n = m + 1 := ⟨n - 1, by omega⟩
      have he : ix s (((m + 1 : Nat) : Int) - 1) = s.getD m 0 := by rw [show ((m + 1 : Nat) : Int) - 1 = (m : Int) by omega]; exact ix_getD s m
      rw [Puny.lastIx] at i2
      rename_i hq
      rw [he] at hq
      have hq' : s.getD m 0 = c := UInt8.toNat_inj.1 (by omega)
      rw [if_pos hq'] at i2
      rw [← i2]; congr 2; omega
    · obtain ⟨m, rfl⟩ : ∃ m, n = m + 1 := ⟨n - 1, by omega⟩
      have he : ix s (((m + 1 : Nat) : Int) - 1) = s.getD m 0 := by rw [show ((m + 1 : Nat) : Int) - 1 = (m : Int) by omega]; exact ix_getD s m
      rw [Puny.lastIx] at i2
      rename_i hq
      rw [he] at hq
      have hq' : ¬ s.getD m 0 = c := fun h => hq (by rw [h])
      rw [if_neg hq'] at i2
      exact ⟨m, ⟨by congr 2; omega, by omega, i2⟩, by omega⟩
    · have : n = 0 := by omega
      subst this
      rw [← i2]; rfl
theorem last_w (s : List UInt8) (c : UInt8) (hs : s.length < 1000000) : WF Tryd.prog cfg 58 [.str s, byteA c] H (fun r H' => r = .i (Puny.lastIx s c s.length) ∧ H' = H) := by
  have hm : ∀ d, cfg.muF 58 d = (false) := fun _ => rfl
  have hz : ∀ d, cfg.fzF 58 d = (false) := fun _ => rfl
  have ht : ∀ d, cfg.tkF 58 d = (false) := fun _ => rfl
  have hr_ : ∀ g, cfg.raw g = (g == 60 || g == 63) := fun _ => rfl
  refine rF_fn rfl rfl Tryd.func58 rfl ?_
  repeat' (first | simp (disch := first | omega | assumption | decide) only [go_sem, hm, hz, ht, hr_] | refine ifP_in (fun _ => ?_) (fun _ => ?_))
  refine rF_use (lastStr_w s c hs) ?_
  rintro _ _ ⟨rfl, rfl⟩
  repeat' (first | simp (disch := first | omega | assumption | decide) only [go_sem, hm, hz, ht, hr_] | refine ifP_in (fun _ => ?_) (fun _ => ?_))
end Pu
end Go.Proofs
/- Walks through Encode. -/
set_option linter.unusedVariables false
set_option linter.unusedSimpArgs false
namespace Go.Proofs
open Go.Lv
namespace Pu
variable {H : Heap}

theorem ix_mem {l : List Int} {i : Nat} (h : i < l.length) : ix l (i : Int) ∈ l := by
  simp [ix, List.getD_eq_getElem?_getD, List.getElem?_eq_getElem h]
theorem plain_take {l : List Int} {i : Nat} (h : i < l.length) : Puny.plain (l.take (i + 1)) = Puny.plain (l.take i) ++ if ix l (i : Int) < 128 then [UInt8.ofNat (ix l (i : Int)).toNat] else [] := by
  rw [List.take_add_one, List.getElem?_eq_getElem h]
  have : ix l (i : Int) = l[i] := by simp [ix, List.getD_eq_getElem?_getD, List.getElem?_eq_getElem h]
  rw [this]
  unfold Puny.plain
  rw [List.filter_append, List.map_append]
  congr 1
  by_cases hc : l[i] < 128 <;> simp [hc]
theorem all_take {l : List Int} {i : Nat} (h : i < l.length) : (l.take (i + 1)).all Puny.scalar = ((l.take i).all Puny.scalar && Puny.scalar (ix l (i : Int))) := by
  rw [List.take_add_one, List.getElem?_eq_getElem h]
  have : ix l (i : Int) = l[i] := by simp [ix, List.getD_eq_getElem?_getD, List.getElem?_eq_getElem h]
  rw [this, List.all_append]; simp

theorem encode_b (l : List Int) (hl : l.length ≤ 140737488355328) : WF Tryd.prog cfg 23 [.sl (l.map fun n => AV.v (.int .i64 n))] H (fun r H' => r = .tup [.str (Puny.encode l).1, .i (Puny.encode l).2] ∧ H' = H ∧ (Puny.encode l).1.length ≤ 3100) := by
  have hm : ∀ d, cfg.muF 23 d = (false) := fun _ => rfl
  have hz : ∀ d, cfg.fzF 23 d = (false) := fun _ => rfl
  have ht : ∀ d, cfg.tkF 23 d = (false) := fun _ => rfl
  have hr_ : ∀ g, cfg.raw g = (g == 60 || g == 63) := fun _ => rfl
  refine rF_fn rfl rfl Tryd.func23 rfl ?_
  repeat' (first | simp (disch := first | omega | assumption | decide) only [go_sem, hm, hz, ht, hr_] | refine ifP_in (fun _ => ?_) (fun _ => ?_))
  · rw [Puny.encode, if_pos (by omega)]
    exact ⟨rfl, by simp⟩
  have hl : l.length ≤ 256 := by omega
  refine rL_loop (σ := Nat) (fun i e H' => H' = H ∧ e 0 = .sl (l.map fun n => AV.v (.int .i64 n)) ∧ e 18 = .sl (l.map fun n => AV.v (.int .i64 n)) ∧ e 19 = .i l.length ∧ e 20 = .i i ∧ i ≤ l.length ∧ e 4 = .sl ((Puny.plain (l.take i)).map byteA) ∧ (l.take i).all Puny.scalar = true) (fun i => l.length - i) 0 ?_ ?_
  · refine ⟨rfl, ?_, ?_, ?_, ?_, by omega, ?_, rfl⟩ <;> simp (disch := first | assumption | omega) only [go_sem] <;> rfl
  · rintro i e H ⟨rfl, g0, g18, g19, g20, gi, g4, ga⟩
    have hpl : (Puny.plain (l.take i)).length ≤ 256 := by
      unfold Puny.plain
      rw [List.length_map]
      have := List.length_filter_le (fun c : Int => decide (c < 128)) (l.take i)
      simp at this; omega
    repeat' (first | simp (disch := first | omega | assumption | decide) only [go_sem, hm, hz, ht, hr_, g0, g18, g19, g20, g4] | refine ifP_in (fun _ => ?_) (fun _ => ?_))
    · have hlt : i < l.length := by omega
      refine rF_use (scalar_w _) ?_
      rintro _ H ⟨rfl, rfl⟩
      have hap := plain_take hlt
      have haa := all_take hlt
      cases hsc : Puny.scalar (ix l (i : Int)) with
      | false =>
        repeat' (first | simp (disch := first | omega | assumption | decide) only [go_sem, hm, hz, ht, hr_, g0, g18, g19, g20, g4] | refine ifP_in (fun _ => ?_) (fun _ => ?_))
        have : Puny.encode l = ([], 1) := by
          rw [Puny.encode, if_neg (by omega)]
          unfold Puny.enc
          rw [if_neg]
          intro h
          rw [List.all_eq_true] at h
          have := h _ (ix_mem hlt)
          rw [hsc] at this; cases this
        rw [this]
        exact ⟨rfl, by simp⟩
      | true =>
        have hs := Puny.scalar_bnd hsc
        rw [ga, hsc] at haa
        repeat' (first | simp (disch := first | omega | assumption | decide) only [go_sem, hm, hz, ht, hr_, g0, g18, g19, g20, g4] | refine ifP_in (fun _ => ?_) (fun _ => ?_))
        · rename_i hc
          rw [if_pos hc] at hap
          refine ⟨i + 1, ⟨by simp, by omega, ?_, haa⟩, by omega⟩
          rw [hap]
        · rename_i hc
          rw [if_neg hc, List.append_nil] at hap
          refine ⟨i + 1, ⟨by simp, by omega, ?_, haa⟩, by omega⟩
          rw [hap]
    all_goals
      obtain rfl : i = l.length := by omega
      simp only [List.take_length] at *
      have henc : Puny.encode l = (Puny.eLoop l (Puny.plain l).length l.length 128 (Puny.dash (Puny.plain l), 0, 72, (Puny.plain l).length), 0) := by
        rw [Puny.encode, if_neg (by omega), Puny.enc, if_pos ga]
      have hall : ∀ c ∈ l, c ≤ 1114111 := fun c hc => (Puny.scalar_bnd (List.all_eq_true.1 ga c hc)).2
      have hd : (Puny.dash (Puny.plain l)).length ≤ 257 := by unfold Puny.dash; split <;> first | omega | (simp; omega)
      have hd1 : (if 0 < (Puny.plain l).length then Puny.plain l ++ [45] else Puny.plain l) = Puny.dash (Puny.plain l) := by
        unfold Puny.dash; split <;> split <;> first | rfl | omega
      have hbas := Puny.plain_len l
      rw [henc]
      clear henc g18 g19 g20 gi ga
      generalize Puny.plain l = p at *
      generalize hdd : Puny.dash p = p0 at *
      generalize hT : Puny.eLoop l p.length l.length 128 (p0, 0, 72, p.length) = T
      clear hdd
      let I : Nat × Int × (List UInt8 × Int × Int × Int) → Env → Heap → Prop := fun z e H'' => H'' = H ∧ e 0 = .sl (l.map fun n => AV.v (.int .i64 n)) ∧ e 7 = .i p.length ∧ e 9 = .i z.2.1 ∧ e 4 = .sl (z.2.2.1.map byteA) ∧ e 10 = .i z.2.2.2.1 ∧ e 11 = .i z.2.2.2.2.1 ∧ e 8 = .i z.2.2.2.2.2 ∧ 128 ≤ z.2.1 ∧ z.2.1 ≤ 1114112 ∧ 0 ≤ z.2.2.2.1 ∧ z.2.2.2.1 ≤ 257 ∧ 0 ≤ z.2.2.2.2.1 ∧ z.2.2.2.2.1 ≤ 400 ∧ z.2.2.2.2.2 = (l.countP fun c => decide (c < z.2.1)) ∧ (z.2.2.1.length : Int) ≤ 257 + 11 * z.2.2.2.2.2 ∧ (l.length : Int) ≤ z.1 + z.2.2.2.2.2 ∧ Puny.eLoop l p.length z.1 z.2.1 z.2.2 = T
      all_goals
        refine rL_loop I (fun z => z.1) (l.length, 128, p0, 0, 72, (p.length : Int)) ?_ ?_
        · refine ⟨rfl, ?_, ?_, ?_, ?_, ?_, ?_, ?_, (by first | omega | (simp only; omega) | (simp; done) | (simp; omega)), (by first | omega | (simp only; omega) | (simp; done) | (simp; omega)), (by first | omega | (simp only; omega) | (simp; done) | (simp; omega)), (by first | omega | (simp only; omega) | (simp; done) | (simp; omega)), (by first | omega | (simp only; omega) | (simp; done) | (simp; omega)), (by first | omega | (simp only; omega) | (simp; done) | (simp; omega)), by simp only; rw [hbas], (by first | omega | (simp only; omega) | (simp; done) | (simp; omega)), (by first | omega | (simp only; omega) | (simp; done) | (simp; omega)), hT⟩ <;> simp (disch := first | assumption | omega) only [go_sem, g0, g4]
          all_goals (rw [← hd1]; first | (rw [if_pos (by omega)]; rfl) | (rw [if_neg (by omega)]))
        · clear g0 g4
          rintro ⟨k, n, b, delta, bias, done⟩ e H ⟨rfl, g0, g7, g9, g4, g10, g11, g8, i1, i2, i3, i4, i5, i6, i7, i8, i9, i10⟩
          simp only at g0 g7 g9 g4 g10 g11 g8 i1 i2 i3 i4 i5 i6 i7 i8 i9 i10
          have hcl : (l.countP fun c => decide (c < n)) ≤ l.length := List.countP_le_length
          repeat' (first | simp (disch := first | omega | assumption | decide) only [go_sem, hm, hz, ht, hr_, g0, g7, g9, g4, g10, g11, g8] | refine ifP_in (fun _ => ?_) (fun _ => ?_))
          · have hlt : (l.countP fun c => decide (c < n)) < l.length := by omega
            refine rF_use (next_w l n (by omega)) ?_
            rintro _ H ⟨rfl, rfl⟩
            have hnx := Puny.nxt_spec (Puny.count_lt hlt) hall
            have hsp := Puny.countP_split l n (Puny.nxt l n) hnx.2.1 hnx.2.2.2
            have hpos : 0 < l.countP fun c => decide (c = Puny.nxt l n) := List.countP_pos_iff.2 ⟨_, hnx.1, by simp⟩
            obtain ⟨k, rfl⟩ : ∃ k', k = k' + 1 := ⟨k - 1, by omega⟩
            rw [Puny.eLoop, if_pos (by omega)] at i10
            unfold Puny.eRound at i10
            simp only at i10
            generalize Puny.nxt l n = m at *
            have hm1 : (m - n) * (done + 1) ≤ 1114112 * 257 := Int.mul_le_mul (by omega) (by omega) (by omega) (by omega)
            have hm2 : 0 ≤ (m - n) * (done + 1) := Int.mul_nonneg (by omega) (by omega)
            have hps := Puny.pass_bnd m p.length (1114112 * 257 + 1000) (by omega)
            generalize hs0 : (b, delta + (m - n) * (done + 1), bias, done) = s0 at *
            have hs1 : s0.1 = b := by rw [← hs0]
            have hs1' : s0.1.length = b.length := by rw [hs1]
            have hs2 : s0.2.1 = delta + (m - n) * (done + 1) := by rw [← hs0]
            have hs3 : s0.2.2.1 = bias := by rw [← hs0]
            have hs4 : s0.2.2.2 = done := by rw [← hs0]
            repeat' (first | simp (disch := first | omega | assumption | decide) only [go_sem, hm, hz, ht, hr_, g0, g7, g9, g4, g10, g11, g8] | refine ifP_in (fun _ => ?_) (fun _ => ?_))
            refine rL_loop (σ := Nat) (fun i e K => K = H ∧ e 0 = .sl (l.map fun n => AV.v (.int .i64 n)) ∧ e 7 = .i p.length ∧ e 9 = .i m ∧ e 61 = .sl (l.map fun n => AV.v (.int .i64 n)) ∧ e 62 = .i l.length ∧ e 63 = .i i ∧ i ≤ l.length ∧
              e 4 = .sl (((l.take i).foldl (Puny.eStep m p.length) s0).1.map byteA) ∧ e 10 = .i ((l.take i).foldl (Puny.eStep m p.length) s0).2.1 ∧ e 11 = .i ((l.take i).foldl (Puny.eStep m p.length) s0).2.2.1 ∧ e 8 = .i ((l.take i).foldl (Puny.eStep m p.length) s0).2.2.2) (fun i => l.length - i) 0 ?_ ?_
            · refine ⟨rfl, ?_, ?_, ?_, ?_, ?_, ?_, by omega, ?_, ?_, ?_, ?_⟩ <;> simp (disch := first | assumption | omega) only [go_sem, g0, g7, g9, g4, g10, g11, g8, List.take_zero, List.foldl_nil, hs1, hs2, hs3, hs4, Int.ofNat_zero]
            · clear g0 g7 g9 g4 g10 g11 g8
              rintro i e H ⟨rfl, g0, g7, g9, g61, g62, g63, gi, g4, g10, g11, g8⟩
              have hb := hps (l.take i) s0 (by omega) (by rw [List.length_take]; omega) (by omega) (by omega) (by omega) (by omega)
              simp only at hb
              rw [List.length_take] at hb
              have hci : ((l.take i).countP fun c => decide (c = m)) ≤ l.length := by
                have := List.countP_le_length (p := fun c => decide (c = m)) (l := l.take i)
                rw [List.length_take] at this; omega
              have hnext : ∀ h : i < l.length, (l.take (i + 1)).foldl (Puny.eStep m p.length) s0 = Puny.eStep m p.length ((l.take i).foldl (Puny.eStep m p.length) s0) (ix l (i : Int)) := fun h => foldl_take _ _ _ _ h
              by_cases hil : i < l.length
              · have hnext := hnext hil
                generalize (l.take i).foldl (Puny.eStep m p.length) s0 = r at *
                obtain ⟨rb, rd, rbi, rdo⟩ := r
                simp only at g4 g10 g11 g8 hb
                repeat' (first | simp (disch := first | omega | assumption | decide) only [go_sem, hm, hz, ht, hr_, g0, g7, g9, g61, g62, g63, g4, g10, g11, g8] | refine ifP_in (fun _ => ?_) (fun _ => ?_))
                · rename_i hlt2
                  refine ⟨i + 1, ⟨rfl, by omega, ?_⟩, by omega⟩
                  rw [hnext, Puny.eStep, if_pos hlt2]
                  exact ⟨rfl, rfl, rfl, rfl⟩
                · rename_i hlt2 heq
                  rw [Puny.eStep, if_neg hlt2, if_pos heq] at hnext
                  refine rF_use (number_w rb rd rbi (by omega) (by omega) (by omega)) ?_
                  rintro _ H ⟨rfl, rfl⟩
                  repeat' (first | simp (disch := first | omega | assumption | decide) only [go_sem, hm, hz, ht, hr_, g0, g7, g9, g61, g62, g63, g4, g10, g11, g8] | refine ifP_in (fun _ => ?_) (fun _ => ?_))
                  refine rF_use (adapt_w rd (rdo + 1) (decide (rdo = p.length)) (by omega) (by omega)) ?_
                  rintro _ H ⟨rfl, rfl⟩
                  repeat' (first | simp (disch := first | omega | assumption | decide) only [go_sem, hm, hz, ht, hr_, g0, g7, g9, g61, g62, g63, g4, g10, g11, g8] | refine ifP_in (fun _ => ?_) (fun _ => ?_))
                  refine ⟨i + 1, ⟨rfl, by omega, ?_⟩, by omega⟩
                  rw [hnext]
                  exact ⟨rfl, rfl, rfl, rfl⟩
                · rename_i hlt2 hne
                  rw [Puny.eStep, if_neg hlt2, if_neg hne] at hnext
                  refine ⟨i + 1, ⟨rfl, by omega, ?_⟩, by omega⟩
                  rw [hnext]
                  exact ⟨rfl, rfl, rfl, rfl⟩
              · obtain rfl : i = l.length := by omega
                rw [List.take_length] at *
                generalize l.foldl (Puny.eStep m p.length) s0 = r at *
                obtain ⟨rb, rd, rbi, rdo⟩ := r
                simp only at g4 g10 g11 g8 hb i10
                repeat' (first | simp (disch := first | omega | assumption | decide) only [go_sem, hm, hz, ht, hr_, g0, g7, g9, g61, g62, g63, g4, g10, g11, g8] | refine ifP_in (fun _ => ?_) (fun _ => ?_))
                refine ⟨(k, m + 1, rb, rd + 1, rbi, rdo), ⟨rfl, (by simp (disch := first | omega | assumption | decide) only [go_sem, *] <;> rfl), (by simp (disch := first | omega | assumption | decide) only [go_sem, *] <;> rfl), (by simp (disch := first | omega | assumption | decide) only [go_sem, *] <;> rfl), (by simp (disch := first | omega | assumption | decide) only [go_sem, *] <;> rfl), (by simp (disch := first | omega | assumption | decide) only [go_sem, *] <;> rfl), (by simp (disch := first | omega | assumption | decide) only [go_sem, *] <;> rfl), (by simp (disch := first | omega | assumption | decide) only [go_sem, *] <;> rfl), (by first | omega | (simp only; omega) | (simp; done) | (simp; omega)), (by first | omega | (simp only; omega) | (simp; done) | (simp; omega)), (by first | omega | (simp only; omega) | (simp; done) | (simp; omega)), (by first | omega | (simp only; omega) | (simp; done) | (simp; omega)), (by first | omega | (simp only; omega) | (simp; done) | (simp; omega)), (by first | omega | (simp only; omega) | (simp; done) | (simp; omega)), ?_, (by first | omega | (simp only; omega) | (simp; done) | (simp; omega)), ?_, i10⟩, (by first | omega | (simp only; omega) | (simp; done) | (simp; omega))⟩
                · simp only; omega
                · simp only; omega
          · have hend : l.length ≤ done := by omega
            have : b = T := by
              rw [← i10]
              cases k with
              | zero => rfl
              | succ k => rw [Puny.eLoop, if_neg (by omega)]
            rw [this] at i8 ⊢
            exact ⟨rfl, by omega⟩
theorem encode_w (l : List Int) (hl : l.length ≤ 140737488355328) : WF Tryd.prog cfg 23 [.sl (l.map fun n => AV.v (.int .i64 n))] H (fun r H' => r = .tup [.str (Puny.encode l).1, .i (Puny.encode l).2] ∧ H' = H) := (encode_b l hl).mono fun r H' h => ⟨h.1, h.2.1⟩
theorem encode_len (l : List Int) : (Puny.encode l).1.length ≤ 3100 := by
  by_cases hl : 256 < l.length
  · rw [Puny.encode, if_pos hl]; simp
  · obtain ⟨_, _, _, _, h⟩ := encode_b (H := []) l (by omega)
    exact h.2.2
end Pu
end Go.Proofs
/- Walks through the document's writing of signs by few letters. -/
set_option linter.unusedVariables false
set_option linter.unusedSimpArgs false
namespace Go.Proofs
open Go.Lv
namespace Pu
variable {H : Heap}

def nxR (n m c : Int) : Int := if n ≤ c ∧ c < m then c else m
theorem nxR_eq (n : Int) : ∀ (l : List Int) (m : Int), (∀ c ∈ l, c ≤ 1114111) → m ≤ 1114112 → l.foldl (nxR n) m = min m (l.foldl (Puny.nx n) 2147483647) ∧ (l.foldl (nxR n) m ≤ m) := by
  have h0 : ∀ (l : List Int) (m : Int), l.foldl (Puny.nx n) m = min m (l.foldl (Puny.nx n) 2147483647) ∨ 2147483647 < m := by
    intro l
    induction l with
    | nil => intro m; simp; omega
    | cons c l ih =>
      intro m
      simp only [List.foldl_cons]
      by_cases hm : 2147483647 < m
      · exact .inr hm
      · left
        have h1 := ih (Puny.nx n m c)
        have h2 := ih (Puny.nx n 2147483647 c)
        have h3 : Puny.nx n m c ≤ m := by unfold Puny.nx; split <;> omega
        have h4 : Puny.nx n 2147483647 c ≤ 2147483647 := by unfold Puny.nx; split <;> omega
        have h5 : Puny.nx n m c = min m (Puny.nx n 2147483647 c) := by unfold Puny.nx; split <;> omega
        omega
  intro l
  induction l with
  | nil => intro m _ hm; simp; omega
  | cons c l ih =>
    intro m hc hm
    have hcc := hc c (List.mem_cons_self ..)
    simp only [List.foldl_cons]
    have h1 := ih (nxR n m c) (fun c h => hc c (List.mem_cons_of_mem _ h)) (by unfold nxR; split <;> omega)
    have h2 := h0 l (Puny.nx n 2147483647 c)
    have h3 : Puny.nx n 2147483647 c ≤ 2147483647 := by unfold Puny.nx; split <;> omega
    have h4 : nxR n m c = min m (Puny.nx n 2147483647 c) := by unfold nxR Puny.nx; split <;> split <;> omega
    omega
theorem nxR_nxt {l : List Int} {n : Int} (h : ∃ c ∈ l, n ≤ c) (hb : ∀ c ∈ l, c ≤ 1114111) : l.foldl (nxR n) 1114112 = Puny.nxt l n := by
  have h1 := (nxR_eq n l 1114112 hb (by omega)).1
  have h2 := Puny.nxt_spec h hb
  rw [h1]
  unfold Puny.nxt at *
  omega

theorem puny_r (l : List Int) (hl : l.length ≤ 140737488355328) : WF Tryd.prog cfg 27 [.sl (l.map fun n => AV.v (.int .i64 n))] H (fun r H' => r = .tup [.str (Puny.encode l).1, .i (Puny.encode l).2] ∧ H' = H) := by
  have hm : ∀ d, cfg.muF 27 d = (false) := fun _ => rfl
  have hz : ∀ d, cfg.fzF 27 d = (false) := fun _ => rfl
  have ht : ∀ d, cfg.tkF 27 d = (false) := fun _ => rfl
  have hr_ : ∀ g, cfg.raw g = (g == 60 || g == 63) := fun _ => rfl
  refine rF_fn rfl rfl Tryd.func27 rfl ?_
  repeat' (first | simp (disch := first | omega | assumption | decide) only [go_sem, hm, hz, ht, hr_] | refine ifP_in (fun _ => ?_) (fun _ => ?_))
  · rw [Puny.encode, if_pos (by omega)]
  have hl : l.length ≤ 256 := by omega
  refine rL_loop (σ := Nat) (fun i e H' => H' = H ∧ e 0 = .sl (l.map fun n => AV.v (.int .i64 n)) ∧ e 5 = .i i ∧ i ≤ l.length ∧ e 4 = .sl ((Puny.plain (l.take i)).map byteA) ∧ (l.take i).all Puny.scalar = true) (fun i => l.length - i) 0 ?_ ?_
  · refine ⟨rfl, ?_, ?_, by omega, ?_, rfl⟩ <;> simp (disch := first | assumption | omega) only [go_sem] <;> rfl
  · rintro i e H ⟨rfl, g0, g5, gi, g4, ga⟩
    have hpl : (Puny.plain (l.take i)).length ≤ 256 := by
      unfold Puny.plain
      rw [List.length_map]
      have := List.length_filter_le (fun c : Int => decide (c < 128)) (l.take i)
      simp at this; omega
    repeat' (first | simp (disch := first | omega | assumption | decide) only [go_sem, hm, hz, ht, hr_, g0, g5, g4] | refine ifP_in (fun _ => ?_) (fun _ => ?_))
    · have hlt : i < l.length := by omega
      refine rF_use (scalar_r _) ?_
      rintro _ H ⟨rfl, rfl⟩
      have hap := plain_take hlt
      have haa := all_take hlt
      cases hsc : Puny.scalar (ix l (i : Int)) with
      | false =>
        repeat' (first | simp (disch := first | omega | assumption | decide) only [go_sem, hm, hz, ht, hr_, g0, g5, g4] | refine ifP_in (fun _ => ?_) (fun _ => ?_))
        have : Puny.encode l = ([], 1) := by
          rw [Puny.encode, if_neg (by omega)]
          unfold Puny.enc
          rw [if_neg]
          intro h
          rw [List.all_eq_true] at h
          have := h _ (ix_mem hlt)
          rw [hsc] at this; cases this
        rw [this]
      | true =>
        have hs := Puny.scalar_bnd hsc
        rw [ga, hsc] at haa
        repeat' (first | simp (disch := first | omega | assumption | decide) only [go_sem, hm, hz, ht, hr_, g0, g5, g4] | refine ifP_in (fun _ => ?_) (fun _ => ?_))
        · rename_i hc
          rw [if_pos hc] at hap
          refine ⟨i + 1, ⟨by simp, by omega, ?_, haa⟩, by omega⟩
          rw [hap]
        · rename_i hc
          rw [if_neg hc, List.append_nil] at hap
          refine ⟨i + 1, ⟨by simp, by omega, ?_, haa⟩, by omega⟩
          rw [hap]
    all_goals
      obtain rfl : i = l.length := by omega
      simp only [List.take_length] at *
      have henc : Puny.encode l = (Puny.eLoop l (Puny.plain l).length l.length 128 (Puny.dash (Puny.plain l), 0, 72, (Puny.plain l).length), 0) := by
        rw [Puny.encode, if_neg (by omega), Puny.enc, if_pos ga]
      have hall : ∀ c ∈ l, c ≤ 1114111 := fun c hc => (Puny.scalar_bnd (List.all_eq_true.1 ga c hc)).2
      have hd : (Puny.dash (Puny.plain l)).length ≤ 257 := by unfold Puny.dash; split <;> first | omega | (simp; omega)
      have hd1 : (if 0 < (Puny.plain l).length then Puny.plain l ++ [45] else Puny.plain l) = Puny.dash (Puny.plain l) := by
        unfold Puny.dash; split <;> split <;> first | rfl | omega
      have hbas := Puny.plain_len l
      rw [henc]
      clear henc gi ga
      generalize Puny.plain l = p at *
      generalize hdd : Puny.dash p = p0 at *
      generalize hT : Puny.eLoop l p.length l.length 128 (p0, 0, 72, p.length) = T
      clear hdd
      let I : Nat × Int × (List UInt8 × Int × Int × Int) → Env → Heap → Prop := fun z e H'' => H'' = H ∧ e 0 = .sl (l.map fun n => AV.v (.int .i64 n)) ∧ e 7 = .i p.length ∧ e 8 = .i z.2.1 ∧ e 4 = .sl (z.2.2.1.map byteA) ∧ e 9 = .i z.2.2.2.1 ∧ e 10 = .i z.2.2.2.2.1 ∧ e 6 = .i z.2.2.2.2.2 ∧ 128 ≤ z.2.1 ∧ z.2.1 ≤ 1114112 ∧ 0 ≤ z.2.2.2.1 ∧ z.2.2.2.1 ≤ 257 ∧ 0 ≤ z.2.2.2.2.1 ∧ z.2.2.2.2.1 ≤ 400 ∧ z.2.2.2.2.2 = (l.countP fun c => decide (c < z.2.1)) ∧ (z.2.2.1.length : Int) ≤ 257 + 11 * z.2.2.2.2.2 ∧ (l.length : Int) ≤ z.1 + z.2.2.2.2.2 ∧ Puny.eLoop l p.length z.1 z.2.1 z.2.2 = T
      all_goals
        refine rL_loop I (fun z => z.1) (l.length, 128, p0, 0, 72, (p.length : Int)) ?_ ?_
        · refine ⟨rfl, ?_, ?_, ?_, ?_, ?_, ?_, ?_, (by first | omega | (simp only; omega) | (simp; done) | (simp; omega)), (by first | omega | (simp only; omega) | (simp; done) | (simp; omega)), (by first | omega | (simp only; omega) | (simp; done) | (simp; omega)), (by first | omega | (simp only; omega) | (simp; done) | (simp; omega)), (by first | omega | (simp only; omega) | (simp; done) | (simp; omega)), (by first | omega | (simp only; omega) | (simp; done) | (simp; omega)), by simp only; rw [hbas], (by first | omega | (simp only; omega) | (simp; done) | (simp; omega)), (by first | omega | (simp only; omega) | (simp; done) | (simp; omega)), hT⟩ <;> simp (disch := first | assumption | omega) only [go_sem, g0, g4]
          all_goals (rw [← hd1]; first | (rw [if_pos (by omega)]; rfl) | (rw [if_neg (by omega)]))
        · clear g0 g4
          rintro ⟨k, n, b, delta, bias, done⟩ e H ⟨rfl, g0, g7, g8, g4, g9, g10, g6, i1, i2, i3, i4, i5, i6, i7, i8, i9, i10⟩
          simp only at g0 g7 g8 g4 g9 g10 g6 i1 i2 i3 i4 i5 i6 i7 i8 i9 i10
          have hcl : (l.countP fun c => decide (c < n)) ≤ l.length := List.countP_le_length
          repeat' (first | simp (disch := first | omega | assumption | decide) only [go_sem, hm, hz, ht, hr_, g0, g7, g8, g4, g9, g10, g6] | refine ifP_in (fun _ => ?_) (fun _ => ?_))
          · have hlt : (l.countP fun c => decide (c < n)) < l.length := by omega
            have hnx := Puny.nxt_spec (Puny.count_lt hlt) hall
            have hnr := nxR_nxt (Puny.count_lt hlt) hall
            refine rL_loop (σ := Nat) (fun i e K => K = H ∧ e 0 = .sl (l.map fun n => AV.v (.int .i64 n)) ∧ e 7 = .i p.length ∧ e 8 = .i n ∧ e 4 = .sl (b.map byteA) ∧ e 9 = .i delta ∧ e 10 = .i bias ∧ e 6 = .i done ∧ e 12 = .i i ∧ i ≤ l.length ∧ e 11 = .i ((l.take i).foldl (nxR n) 1114112)) (fun i => l.length - i) 0 ?_ ?_
            · refine ⟨rfl, (by simp (disch := first | omega | assumption | decide) only [go_sem, *] <;> rfl), (by simp (disch := first | omega | assumption | decide) only [go_sem, *] <;> rfl), (by simp (disch := first | omega | assumption | decide) only [go_sem, *] <;> rfl), (by simp (disch := first | omega | assumption | decide) only [go_sem, *] <;> rfl), (by simp (disch := first | omega | assumption | decide) only [go_sem, *] <;> rfl), (by simp (disch := first | omega | assumption | decide) only [go_sem, *] <;> rfl), (by simp (disch := first | omega | assumption | decide) only [go_sem, *] <;> rfl), (by simp (disch := first | omega | assumption | decide) only [go_sem, *] <;> rfl), by omega, (by simp (disch := first | omega | assumption | decide) only [go_sem, *] <;> rfl)⟩
            · clear g0 g7 g8 g4 g9 g10 g6
              rintro i e H ⟨rfl, g0, g7, g8, g4, g9, g10, g6, g12, gi, g11⟩
              by_cases hil : i < l.length
              · repeat' (first | simp (disch := first | omega | assumption | decide) only [go_sem, hm, hz, ht, hr_, g0, g7, g8, g4, g9, g10, g6, g12, g11] | refine ifP_in (fun _ => ?_) (fun _ => ?_))
                · rename_i h1 h2
                  refine ⟨i + 1, ⟨by simp, by omega, ?_⟩, by omega⟩
                  rw [foldl_take _ _ _ _ (by omega), nxR, if_pos ⟨h1, h2⟩]
                · rename_i h1 h2
                  refine ⟨i + 1, ⟨by simp, by omega, ?_⟩, by omega⟩
                  rw [foldl_take _ _ _ _ (by omega), nxR, if_neg (fun h => h2 h.2)]
                · rename_i h1
                  refine ⟨i + 1, ⟨by simp, by omega, ?_⟩, by omega⟩
                  rw [foldl_take _ _ _ _ (by omega), nxR, if_neg (fun h => h1 h.1)]
              · obtain rfl : i = l.length := by omega
                rw [List.take_length, hnr] at g11
                have hsp := Puny.countP_split l n (Puny.nxt l n) hnx.2.1 hnx.2.2.2
                have hpos : 0 < l.countP fun c => decide (c = Puny.nxt l n) := List.countP_pos_iff.2 ⟨_, hnx.1, by simp⟩
                clear hnr
                obtain ⟨k, rfl⟩ : ∃ k', k = k' + 1 := ⟨k - 1, by omega⟩
                rw [Puny.eLoop, if_pos (by omega)] at i10
                unfold Puny.eRound at i10
                simp only at i10
                generalize Puny.nxt l n = m at *
                have hm1 : (m - n) * (done + 1) ≤ 1114112 * 257 := Int.mul_le_mul (by omega) (by omega) (by omega) (by omega)
                have hm2 : 0 ≤ (m - n) * (done + 1) := Int.mul_nonneg (by omega) (by omega)
                have hps := Puny.pass_bnd m p.length (1114112 * 257 + 1000) (by omega)
                generalize hs0 : (b, delta + (m - n) * (done + 1), bias, done) = s0 at *
                have hs1 : s0.1 = b := by rw [← hs0]
                have hs1' : s0.1.length = b.length := by rw [hs1]
                have hs2 : s0.2.1 = delta + (m - n) * (done + 1) := by rw [← hs0]
                have hs3 : s0.2.2.1 = bias := by rw [← hs0]
                have hs4 : s0.2.2.2 = done := by rw [← hs0]
                repeat' (first | simp (disch := first | omega | assumption | decide) only [go_sem, hm, hz, ht, hr_, g0, g7, g8, g4, g9, g10, g6, g12, g11] | refine ifP_in (fun _ => ?_) (fun _ => ?_))
                refine rL_loop (σ := Nat) (fun i e K => K = H ∧ e 0 = .sl (l.map fun n => AV.v (.int .i64 n)) ∧ e 7 = .i p.length ∧ e 8 = .i m ∧ e 13 = .i i ∧ i ≤ l.length ∧
                  e 4 = .sl (((l.take i).foldl (Puny.eStep m p.length) s0).1.map byteA) ∧ e 9 = .i ((l.take i).foldl (Puny.eStep m p.length) s0).2.1 ∧ e 10 = .i ((l.take i).foldl (Puny.eStep m p.length) s0).2.2.1 ∧ e 6 = .i ((l.take i).foldl (Puny.eStep m p.length) s0).2.2.2) (fun i => l.length - i) 0 ?_ ?_
                · refine ⟨rfl, ?_, ?_, ?_, ?_, by omega, ?_, ?_, ?_, ?_⟩ <;> simp (disch := first | assumption | omega) only [go_sem, g0, g7, g8, g4, g9, g10, g6, g12, g11, List.take_zero, List.foldl_nil, hs1, hs2, hs3, hs4, Int.ofNat_zero]
                · clear g0 g7 g8 g4 g9 g10 g6 g12 g11
                  rintro i e H ⟨rfl, g0, g7, g8, g13, gi, g4, g9, g10, g6⟩
                  have hb := hps (l.take i) s0 (by omega) (by rw [List.length_take]; omega) (by omega) (by omega) (by omega) (by omega)
                  simp only at hb
                  rw [List.length_take] at hb
                  have hci : ((l.take i).countP fun c => decide (c = m)) ≤ l.length := by
                    have := List.countP_le_length (p := fun c => decide (c = m)) (l := l.take i)
                    rw [List.length_take] at this; omega
                  have hnext : ∀ h : i < l.length, (l.take (i + 1)).foldl (Puny.eStep m p.length) s0 = Puny.eStep m p.length ((l.take i).foldl (Puny.eStep m p.length) s0) (ix l (i : Int)) := fun h => foldl_take _ _ _ _ h
                  by_cases hil : i < l.length
                  · replace hnext := hnext hil
                    generalize (l.take i).foldl (Puny.eStep m p.length) s0 = r at *
                    obtain ⟨rb, rd, rbi, rdo⟩ := r
                    simp only at g4 g9 g10 g6 hb
                    repeat' (first | simp (disch := first | omega | assumption | decide) only [go_sem, hm, hz, ht, hr_, g0, g7, g8, g13, g4, g9, g10, g6] | refine ifP_in (fun _ => ?_) (fun _ => ?_))
                    · rename_i h1
                      rw [Puny.eStep, if_pos h1] at hnext
                      refine ⟨i + 1, ⟨rfl, by omega, ?_⟩, by omega⟩
                      rw [hnext]
                      exact ⟨rfl, rfl, rfl, rfl⟩
                    · rename_i h1 h2
                      rw [Puny.eStep, if_neg h1, if_neg h2] at hnext
                      refine ⟨i + 1, ⟨rfl, by omega, ?_⟩, by omega⟩
                      rw [hnext]
                      exact ⟨rfl, rfl, rfl, rfl⟩
                    · rename_i h1 h2
                      have h2 : ix l (i : Int) = m := by omega
                      rw [Puny.eStep, if_neg h1, if_pos h2] at hnext
                      refine rL_loop (σ := List UInt8 × Int × Int) (fun s e H' => H' = H ∧ e 0 = .sl (l.map fun n => AV.v (.int .i64 n)) ∧ e 7 = .i p.length ∧ e 8 = .i m ∧ e 13 = .i i ∧ e 9 = .i rd ∧ e 10 = .i rbi ∧ e 6 = .i rdo ∧ e 4 = .sl (s.1.map byteA) ∧ e 14 = .i s.2.1 ∧ e 15 = .i s.2.2 ∧ 0 ≤ s.2.1 ∧ s.2.1 < 1000000000000 ∧ 0 ≤ s.2.2 ∧ s.2.2 + 36 * s.2.1 < 36000000000036 + 36 ∧ (s.1.length : Int) + s.2.1 < 1000000 + 1000000000000 ∧ s.1 ++ Puny.numL s.2.1 s.2.2 rbi = rb ++ Puny.numL rd 36 rbi) (fun s => s.2.1.toNat) (rb, rd, 36) ?_ ?_
                      · refine ⟨rfl, (by simp (disch := first | omega | assumption | decide) only [go_sem, *] <;> rfl), (by simp (disch := first | omega | assumption | decide) only [go_sem, *] <;> rfl), (by simp (disch := first | omega | assumption | decide) only [go_sem, *] <;> rfl), (by simp (disch := first | omega | assumption | decide) only [go_sem, *] <;> rfl), (by simp (disch := first | omega | assumption | decide) only [go_sem, *] <;> rfl), (by simp (disch := first | omega | assumption | decide) only [go_sem, *] <;> rfl), (by simp (disch := first | omega | assumption | decide) only [go_sem, *] <;> rfl), (by simp (disch := first | omega | assumption | decide) only [go_sem, *] <;> rfl), (by simp (disch := first | omega | assumption | decide) only [go_sem, *] <;> rfl), (by simp (disch := first | omega | assumption | decide) only [go_sem, *] <;> rfl), (by first | omega | (simp only; omega) | (simp; done) | (simp; omega)), (by first | omega | (simp only; omega) | (simp; done) | (simp; omega)), (by first | omega | (simp only; omega) | (simp; done) | (simp; omega)), (by first | omega | (simp only; omega) | (simp; done) | (simp; omega)), (by first | omega | (simp only; omega) | (simp; done) | (simp; omega)), rfl⟩
                      · clear g0 g7 g8 g13 g4 g9 g10 g6
                        rintro ⟨c, q, k⟩ e H ⟨rfl, g0, g7, g8, g13, g9, g10, g6, g4, g14, g15, j1, j2, j3, j4, j5, j6⟩
                        simp only at g0 g7 g8 g13 g9 g10 g6 g4 g14 g15 j1 j2 j3 j4 j5 j6
                        repeat' (first | simp (disch := first | omega | assumption | decide) only [go_sem, hm, hz, ht, hr_, g0, g7, g8, g13, g4, g9, g10, g6, g14, g15] | refine ifP_in (fun _ => ?_) (fun _ => ?_))
                        refine rF_use (thr_r k rbi (by omega) (by omega)) ?_
                        rintro _ H ⟨rfl, rfl⟩
                        have t1 := Puny.thr_bnd k rbi
                        rw [Puny.numL] at j6
                        repeat' (first | simp (disch := first | omega | assumption | decide) only [go_sem, hm, hz, ht, hr_, g0, g7, g8, g13, g4, g9, g10, g6, g14, g15] | refine ifP_in (fun _ => ?_) (fun _ => ?_))
                        · refine rF_use (thr_r k rbi (by omega) (by omega)) ?_
                          rintro _ H ⟨rfl, rfl⟩
                          rw [dif_neg (by omega)] at j6
                          generalize Puny.thr k rbi = t at *
                          have m1 := Int.emod_nonneg (q - t) (by omega : 36 - t ≠ 0)
                          have m2 := Int.emod_lt_of_pos (q - t) (by omega : 0 < 36 - t)
                          have m3 := Puny.div_lt_self' t1.1 t1.2 (show t ≤ q by omega)
                          repeat' (first | simp (disch := first | omega | assumption | decide) only [go_sem, hm, hz, ht, hr_, g0, g7, g8, g13, g4, g9, g10, g6, g14, g15] | refine ifP_in (fun _ => ?_) (fun _ => ?_))
                          refine rF_use (ltr_r _ (by omega)) ?_
                          rintro _ H ⟨rfl, rfl⟩
                          repeat' (first | simp (disch := first | omega | assumption | decide) only [go_sem, hm, hz, ht, hr_, g0, g7, g8, g13, g4, g9, g10, g6, g14, g15] | refine ifP_in (fun _ => ?_) (fun _ => ?_))
                          refine ⟨(c ++ [Puny.ltr (t + (q - t) % (36 - t))], (q - t) / (36 - t), k + 36), ⟨rfl, rfl, rfl, (by first | omega | (simp only; omega) | (simp; done) | (simp; omega)), (by first | omega | (simp only; omega) | (simp; done) | (simp; omega)), (by first | omega | (simp only; omega) | (simp; done) | (simp; omega)), (by first | omega | (simp only; omega) | (simp; done) | (simp; omega)), by simp only [List.length_append, List.length_singleton]; omega, ?_⟩, (by first | omega | (simp only; omega) | (simp; done) | (simp; omega))⟩
                          rw [← j6]; simp
                        · rw [dif_pos (by omega)] at j6
                          refine rF_use (ltr_r q (by omega)) ?_
                          rintro _ H ⟨rfl, rfl⟩
                          repeat' (first | simp (disch := first | omega | assumption | decide) only [go_sem, hm, hz, ht, hr_, g0, g7, g8, g13, g4, g9, g10, g6, g14, g15] | refine ifP_in (fun _ => ?_) (fun _ => ?_))
                          refine rF_use (adapt_r rd (rdo + 1) (decide (rdo = p.length)) (by omega) (by omega)) ?_
                          rintro _ H ⟨rfl, rfl⟩
                          repeat' (first | simp (disch := first | omega | assumption | decide) only [go_sem, hm, hz, ht, hr_, g0, g7, g8, g13, g4, g9, g10, g6, g14, g15] | refine ifP_in (fun _ => ?_) (fun _ => ?_))
                          refine ⟨i + 1, ⟨rfl, by omega, ?_⟩, by omega⟩
                          rw [hnext, ← j6]
                          exact ⟨rfl, rfl, rfl, rfl⟩
                  · obtain rfl : i = l.length := by omega
                    rw [List.take_length] at *
                    generalize l.foldl (Puny.eStep m p.length) s0 = r at *
                    obtain ⟨rb, rd, rbi, rdo⟩ := r
                    simp only at g4 g9 g10 g6 hb i10
                    repeat' (first | simp (disch := first | omega | assumption | decide) only [go_sem, hm, hz, ht, hr_, g0, g7, g8, g13, g4, g9, g10, g6] | refine ifP_in (fun _ => ?_) (fun _ => ?_))
                    refine ⟨(k, m + 1, rb, rd + 1, rbi, rdo), ⟨rfl, (by simp (disch := first | omega | assumption | decide) only [go_sem, *] <;> rfl), (by simp (disch := first | omega | assumption | decide) only [go_sem, *] <;> rfl), (by simp (disch := first | omega | assumption | decide) only [go_sem, *] <;> rfl), (by simp (disch := first | omega | assumption | decide) only [go_sem, *] <;> rfl), (by simp (disch := first | omega | assumption | decide) only [go_sem, *] <;> rfl), (by simp (disch := first | omega | assumption | decide) only [go_sem, *] <;> rfl), (by simp (disch := first | omega | assumption | decide) only [go_sem, *] <;> rfl), (by first | omega | (simp only; omega) | (simp; done) | (simp; omega)), (by first | omega | (simp only; omega) | (simp; done) | (simp; omega)), (by first | omega | (simp only; omega) | (simp; done) | (simp; omega)), (by first | omega | (simp only; omega) | (simp; done) | (simp; omega)), (by first | omega | (simp only; omega) | (simp; done) | (simp; omega)), (by first | omega | (simp only; omega) | (simp; done) | (simp; omega)), ?_, (by first | omega | (simp only; omega) | (simp; done) | (simp; omega)), ?_, i10⟩, (by first | omega | (simp only; omega) | (simp; done) | (simp; omega))⟩
                    · simp only; omega
                    · simp only; omega
          · have hend : l.length ≤ done := by omega
            have : b = T := by
              rw [← i10]
              cases k with
              | zero => rfl
              | succ k => rw [Puny.eLoop, if_neg (by omega)]
            rw [this]
end Pu
end Go.Proofs
/- Walks through Decode. -/
set_option linter.unusedVariables false
set_option linter.unusedSimpArgs false
namespace Go.Proofs
open Go.Lv
namespace Pu
variable {H : Heap}

abbrev iA : Int → AV := fun n => AV.v (.int .i64 n)

theorem insert_w {H0 : Heap} {a : AV} {xs : List Int} (hr : RowOf iA H0.length H a xs) (hp : H0 <+: H) (i x : Int) (h0 : 0 ≤ i) (h1 : i ≤ xs.length) (hl : xs.length < 1000000) :
    WF Tryd.prog cfg 60 [a, .i i, .sl ([x].map iA)] H (fun r H' => RowOf iA H0.length H' r (xs.take i.toNat ++ x :: xs.drop i.toNat) ∧ H0 <+: H') := by
  rcases hr with ⟨rfl, rfl⟩ | ⟨j, hj, rfl, hH, hx⟩
  · have : i = 0 := by simp at h1; omega
    subst this
    refine WF.ext (g := fun args H => insertA H args) rfl (r := .mr H.length 0 (0 + 1) 1 false) (H' := H ++ [[iA x]]) ?_ ?_
    · show insertA H [nilA, .i 0, .sl [iA x]] = _
      unfold insertA nilA
      simp only
      rw [if_pos]
      · rfl
      · refine ⟨by simp, by simp, ?_⟩
        intro b hb
        simp at hb; subst hb; exact ⟨rfl, rfl⟩
    · refine ⟨.inr ⟨H.length, pre_len hp, rfl, ?_, by simp⟩, pre_add hp _⟩
      rw [List.getElem?_append_right (by omega)]; simp
  · refine WF.ext (g := fun args H => insertA H args) rfl (r := .mr H.length 0 (xs.length + 1) 1 false) (H' := H.set j [] ++ [(xs.take i.toNat ++ x :: xs.drop i.toNat).map iA]) ?_ ?_
    · show insertA H [.mr j 0 xs.length 1 false, .i i, .sl [iA x]] = _
      unfold insertA
      simp only [hH, Option.bind_some]
      rw [if_pos]
      · have e : (xs.map iA).take xs.length = xs.map iA := List.take_of_length_le (by simp)
        rw [e]; simp [AV.cells]
      · refine ⟨h0, h1, by simp, by intro h; simp at h; rw [h] at hx; simp at hx, all_cell1 xs, by simp, by simp; omega, ?_⟩
        intro b hb
        simp at hb; subst hb; exact ⟨rfl, rfl⟩
    · refine ⟨.inr ⟨H.length, pre_len hp, ?_, ?_, by simp; omega⟩, pre_set hp hj _ _⟩
      · congr 1
        simp; omega
      · rw [get_end]

theorem dec_all {s : List UInt8} {i : Nat} (h : i < s.length) (h1 : 128 ≤ ((ix s (i : Int)).toNat : Int)) : Puny.dec s = none := by
  unfold Puny.dec
  rw [if_neg]
  intro ha
  rw [List.all_eq_true] at ha
  have hm : ix s (i : Int) ∈ s := by simp [ix, List.getD_eq_getElem?_getD, List.getElem?_eq_getElem h]
  have := ha _ hm
  simp at this
  omega
theorem bytes_take {s : List UInt8} {i : Nat} (h : i < s.length) : (s.take (i + 1)).map (fun c => (c.toNat : Int)) = (s.take i).map (fun c => (c.toNat : Int)) ++ [((ix s (i : Int)).toNat : Int)] := by
  rw [List.take_add_one, List.getElem?_eq_getElem h, List.map_append]
  simp [ix, List.getD_eq_getElem?_getD, List.getElem?_eq_getElem h]

theorem decode_w (s : List UInt8) (hs : s.length ≤ 140737488355328) : WF Tryd.prog cfg 32 [.str s] H (fun r H' => r = .tup [.sl ((Puny.decode s).1.map iA), .i (Puny.decode s).2] ∧ H <+: H') := by
  have hm : ∀ d, cfg.muF 32 d = (d == 5 || d == 43) := fun _ => rfl
  have hz : ∀ d, cfg.fzF 32 d = (d == 2) := fun _ => rfl
  have ht : ∀ d, cfg.tkF 32 d = (false) := fun _ => rfl
  have hr_ : ∀ g, cfg.raw g = (g == 60 || g == 63) := fun _ => rfl
  refine rF_fn rfl rfl Tryd.func32 rfl ?_
  repeat' (first | simp (disch := first | omega | assumption | decide) only [go_sem, hm, hz, ht, hr_] | refine ifP_in (fun _ => ?_) (fun _ => ?_))
  · rw [Puny.decode, if_pos (by omega)]
    exact ⟨rfl, List.prefix_refl _⟩
  have hs : s.length ≤ 4000 := by omega
  have hbad : Puny.dec s = none → Puny.decode s = ([], 4) := fun h => by rw [Puny.decode, if_neg (by omega), h]
  have hgood : ∀ l, Puny.dec s = some l → Puny.decode s = (l, 0) := fun l h => by rw [Puny.decode, if_neg (by omega), h]
  refine rL_loop (σ := Nat) (fun i e H' => H' = H ∧ e 0 = .str s ∧ e 20 = .i s.length ∧ e 21 = .i i ∧ i ≤ s.length ∧ ((s.take i).all fun c => decide (c.toNat < 128)) = true) (fun i => s.length - i) 0 ?_ ?_
  · exact ⟨rfl, (by simp (disch := first | omega | assumption | decide) only [go_sem, *] <;> rfl), (by simp (disch := first | omega | assumption | decide) only [go_sem, *] <;> rfl), (by simp (disch := first | omega | assumption | decide) only [go_sem, *] <;> rfl), by omega, rfl⟩
  · rintro i e H ⟨rfl, g0, g20, g21, gi, ga⟩
    by_cases hil : i < s.length
    · repeat' (first | simp (disch := first | omega | assumption | decide) only [go_sem, hm, hz, ht, hr_, g0, g20, g21] | refine ifP_in (fun _ => ?_) (fun _ => ?_))
      · rw [hbad (dec_all hil (by assumption))]
        exact ⟨rfl, List.prefix_refl _⟩
      · rename_i hlt
        refine ⟨i + 1, ⟨by simp, by omega, ?_⟩, by omega⟩
        rw [List.take_add_one, List.all_append, ga, List.getElem?_eq_getElem hil]
        have : ix s (i : Int) = s[i] := by simp [ix, List.getD_eq_getElem?_getD, List.getElem?_eq_getElem hil]
        rw [this] at hlt
        simp; omega
    · obtain rfl : i = s.length := by omega
      rw [List.take_length] at ga
      repeat' (first | simp (disch := first | omega | assumption | decide) only [go_sem, hm, hz, ht, hr_, g0, g20, g21] | refine ifP_in (fun _ => ?_) (fun _ => ?_))
      refine rF_use (last_w s 45 (by omega)) ?_
      rintro _ H ⟨rfl, rfl⟩
      have hcb := Puny.lastIx_bnd s 45 s.length
      have hdec : Puny.dec s = Puny.decL (s.length + 1) (if 0 < Puny.cutAt s then s.drop (Puny.cutAt s + 1).toNat else s) ((s.take (Puny.cutAt s).toNat).map fun c => (c.toNat : Int)) 128 0 72 := by
        unfold Puny.dec; rw [if_pos ga]
      unfold Puny.cutAt at hdec
      generalize Puny.lastIx s 45 s.length = cut at *
      have hpre : H <+: H := List.prefix_refl _
      repeat' (first | simp (disch := first | omega | assumption | decide) only [go_sem, hm, hz, ht, hr_, g0, g20, g21] | refine ifP_in (fun _ => ?_) (fun _ => ?_))
      · rename_i hcut
        rw [if_pos hcut] at hdec
        refine rL_loop (σ := Nat) (fun i e H' => H <+: H' ∧ e 0 = .str s ∧ e 6 = .i cut ∧ e 33 = .i cut ∧ e 34 = .i i ∧ i ≤ cut ∧ RowOf iA H.length H' (e 5) ((s.take i).map fun c => (c.toNat : Int))) (fun i => cut.toNat - i) 0 ?_ ?_
        · exact ⟨hpre, (by simp (disch := first | omega | assumption | decide) only [go_sem, *] <;> rfl), (by simp (disch := first | omega | assumption | decide) only [go_sem, *] <;> rfl), (by simp (disch := first | omega | assumption | decide) only [go_sem, *] <;> rfl), (by simp (disch := first | omega | assumption | decide) only [go_sem, *] <;> rfl), by omega, .inl ⟨(by simp (disch := first | omega | assumption | decide) only [go_sem, *] <;> rfl), rfl⟩⟩
        · clear hpre g0 g20 g21
          rintro i e K ⟨hp, g0, g6, g33, g34, gi, hr⟩
          generalize g5 : e 5 = a at *
          by_cases hil : i < cut
          · have hlt : i < s.length := by omega
            repeat' (first | simp (disch := first | omega | assumption | decide) only [go_sem, hm, hz, ht, hr_, g0, g5, g6, g33, g34] | refine ifP_in (fun _ => ?_) (fun _ => ?_))
            have hx := (ix s (i : Int)).toNat_lt
            refine bind_append (f := iA) (ys := [((ix s (i : Int)).toNat : Int)]) hr hp ?_ (by simp) ?_ ?_
            · rfl
            · simp; omega
            intro a' K hr' hp'
            repeat' (first | simp (disch := first | omega | assumption | decide) only [go_sem, hm, hz, ht, hr_, g0, g5, g6, g33, g34] | refine ifP_in (fun _ => ?_) (fun _ => ?_))
            refine ⟨i + 1, ⟨hp', rfl, by omega, ?_⟩, by omega⟩
            rw [bytes_take hlt]
            exact hr'
          · obtain rfl : cut = (i : Int) := by omega
            repeat' (first | simp (disch := first | omega | assumption | decide) only [go_sem, hm, hz, ht, hr_, g0, g5, g6, g33, g34] | refine ifP_in (fun _ => ?_) (fun _ => ?_))
            have hl0 : (s.take i).length ≤ s.length := by simp; omega
            have hr0 : (s.drop (i + 1 : Int).toNat).length ≤ s.length := by simp
            rw [show ((i : Int)).toNat = i from rfl] at hdec
            generalize s.drop (i + 1 : Int).toNat = r0 at *
            rw [← List.length_map (f := fun c : UInt8 => (c.toNat : Int))] at hl0
            generalize (s.take i).map (fun c => (c.toNat : Int)) = l0 at *
            refine rL_loop (σ := Nat × Nat × List Int × Int × Int × Int) (fun z e H' => H <+: H' ∧ e 0 = .str r0 ∧ e 11 = .i z.2.1 ∧ z.2.1 ≤ r0.length ∧ e 8 = .i z.2.2.2.1 ∧ e 9 = .i z.2.2.2.2.1 ∧ e 10 = .i z.2.2.2.2.2 ∧ RowOf iA H.length H' (e 5) z.2.2.1 ∧ 0 ≤ z.2.2.2.1 ∧ z.2.2.2.1 ≤ 1114111 ∧ 0 ≤ z.2.2.2.2.1 ∧ z.2.2.2.2.1 ≤ 2147483647 ∧ 0 ≤ z.2.2.2.2.2 ∧ z.2.2.2.2.2 ≤ 400 ∧ z.2.2.1.length ≤ 4000 ∧ r0.length + 1 ≤ z.1 + z.2.1 ∧ Puny.decL z.1 (r0.drop z.2.1) z.2.2.1 z.2.2.2.1 z.2.2.2.2.1 z.2.2.2.2.2 = Puny.dec s) (fun z => r0.length - z.2.1) (s.length + 1, 0, l0, 128, 0, 72) ?_ ?_
            · refine ⟨hp, (by simp (disch := first | omega | assumption | decide) only [go_sem, *] <;> rfl), (by simp (disch := first | omega | assumption | decide) only [go_sem, *] <;> rfl), (by first | omega | (simp only; omega) | (simp; done) | (simp; omega)), (by simp (disch := first | omega | assumption | decide) only [go_sem, *] <;> rfl), (by simp (disch := first | omega | assumption | decide) only [go_sem, *] <;> rfl), (by simp (disch := first | omega | assumption | decide) only [go_sem, *] <;> rfl), ?_, (by first | omega | (simp only; omega) | (simp; done) | (simp; omega)), (by first | omega | (simp only; omega) | (simp; done) | (simp; omega)), (by first | omega | (simp only; omega) | (simp; done) | (simp; omega)), (by first | omega | (simp only; omega) | (simp; done) | (simp; omega)), (by first | omega | (simp only; omega) | (simp; done) | (simp; omega)), (by first | omega | (simp only; omega) | (simp; done) | (simp; omega)), (by first | omega | (simp only; omega) | (simp; done) | (simp; omega)), (by first | omega | (simp only; omega) | (simp; done) | (simp; omega)), ?_⟩
              · simp (disch := first | omega | assumption | decide) only [go_sem, *]
              · simp only [List.drop_zero]; exact hdec.symm
            · clear g0 hr hp hdec
              rintro ⟨k, at_, l, n, i, bias⟩ e K ⟨hp, g0, g11, j1, g8, g9, g10, hr, j2, j3, j4, j5, j6, j7, j8, j9, j10⟩
              simp only at g0 g11 j1 g8 g9 g10 hr j2 j3 j4 j5 j6 j7 j8 j9 j10
              generalize g5 : e 5 = a at *
              have hlen : ∀ el, lenD (some (.slice el)) (owA a) = some (.v (.int .i64 l.length)) := fun el => hr.len
              obtain ⟨k, rfl⟩ : ∃ k', k = k' + 1 := ⟨k - 1, by omega⟩
              rw [Puny.decL] at j10
              repeat' (first | simp (disch := first | omega | assumption | decide) only [go_sem, hm, hz, ht, hr_, g0, g5, g8, g9, g10, g11, hlen] | refine ifP_in (fun _ => ?_) (fun _ => ?_))
              · have hat : at_ < r0.length := by omega
                refine rF_use (delta_w r0 at_ i bias (by omega) (by omega) (by omega) (by omega)) ?_
                rintro _ K ⟨rfl, rfl⟩
                have hsh := Puny.deltaR_shift bias (r0.drop at_) 0 at_ i 1 36
                rw [Int.zero_add] at hsh
                rw [Int.toNat_natCast, hsh]
                have hbn := Puny.deltaR_bnd bias (r0.drop at_) 0 i 1 36
                rw [if_neg (by omega), if_neg (by simp; omega)] at j10
                cases hd : Puny.deltaR (r0.drop at_) 0 i 1 36 bias with
                | none =>
                  rw [hd] at j10
                  simp only [Option.map_none, deltaA]
                  repeat' (first | simp (disch := first | omega | assumption | decide) only [go_sem, hm, hz, ht, hr_, g0, g5, g8, g9, g10, g11, hlen] | refine ifP_in (fun _ => ?_) (fun _ => ?_))
                  rw [hbad j10.symm]
                  exact ⟨rfl, hp⟩
                | some q =>
                  obtain ⟨x, e'⟩ := q
                  rw [hd] at j10
                  simp only at j10
                  have hbn := hbn x e' (by omega) (by omega) (by omega) hd
                  rw [List.length_drop] at hbn
                  simp only [Option.map_some, deltaA]
                  repeat' (first | simp (disch := first | omega | assumption | decide) only [go_sem, hm, hz, ht, hr_, g0, g5, g8, g9, g10, g11, hlen] | refine ifP_in (fun _ => ?_) (fun _ => ?_))
                  refine rF_use (adapt_w (x - i) (l.length + 1) (decide (i = 0)) (by omega) (by omega)) ?_
                  rintro _ K ⟨rfl, rfl⟩
                  have hab := Puny.adapt_bnd (x - i) (l.length + 1) (decide (i = 0)) (by omega) (by omega) (by omega)
                  have hx1 : 0 ≤ x / ((l.length : Int) + 1) := Int.ediv_nonneg (by omega) (by omega)
                  have hx2 : x / ((l.length : Int) + 1) ≤ x := Int.ediv_le_self _ (by omega)
                  have hx3 : 0 ≤ x % ((l.length : Int) + 1) := Int.emod_nonneg _ (by omega)
                  have hx4 : x % ((l.length : Int) + 1) < l.length + 1 := Int.emod_lt_of_pos _ (by omega)
                  repeat' (first | simp (disch := first | omega | assumption | decide) only [go_sem, hm, hz, ht, hr_, g0, g5, g8, g9, g10, g11, hlen] | refine ifP_in (fun _ => ?_) (fun _ => ?_))
                  · rw [if_pos (by omega)] at j10
                    rw [hbad j10.symm]
                    exact ⟨rfl, hp⟩
                  · rw [if_neg (by omega)] at j10
                    refine rF_use (scalar_w _) ?_
                    rintro _ K ⟨rfl, rfl⟩
                    cases hsc : Puny.scalar (n + x / ((l.length : Int) + 1)) with
                    | false =>
                      rw [if_pos hsc] at j10
                      repeat' (first | simp (disch := first | omega | assumption | decide) only [go_sem, hm, hz, ht, hr_, g0, g5, g8, g9, g10, g11, hlen] | refine ifP_in (fun _ => ?_) (fun _ => ?_))
                      rw [hbad j10.symm]
                      exact ⟨rfl, hp⟩
                    | true =>
                      have hsb := Puny.scalar_bnd hsc
                      rw [if_neg (by rw [hsc]; simp)] at j10
                      repeat' (first | simp (disch := first | omega | assumption | decide) only [go_sem, hm, hz, ht, hr_, g0, g5, g8, g9, g10, g11, hlen] | refine ifP_in (fun _ => ?_) (fun _ => ?_))
                      refine rF_use (insert_w hr hp (x % ((l.length : Int) + 1)) (n + x / ((l.length : Int) + 1)) (by omega) (by omega) (by omega)) ?_
                      rintro a' K' ⟨hr', hp'⟩
                      repeat' (first | simp (disch := first | omega | assumption | decide) only [go_sem, hm, hz, ht, hr_, g0, g5, g8, g9, g10, g11, hlen] | refine ifP_in (fun _ => ?_) (fun _ => ?_))
                      refine ⟨(k, at_ + e'.toNat, _, _, _, _), ⟨hp', ?_, by simp only; omega, rfl, rfl, rfl, hr', (by first | omega | (simp only; omega) | (simp; done) | (simp; omega)), (by first | omega | (simp only; omega) | (simp; done) | (simp; omega)), (by first | omega | (simp only; omega) | (simp; done) | (simp; omega)), (by first | omega | (simp only; omega) | (simp; done) | (simp; omega)), hab.1, hab.2, ?_, (by first | omega | (simp only; omega) | (simp; done) | (simp; omega)), ?_⟩, by simp only; omega⟩
                      · simp only; congr 1; omega
                      · simp only [List.length_append, List.length_take, List.length_cons, List.length_drop]; omega
                      · simp only
                        rw [← List.drop_drop]
                        exact j10
              · rw [if_pos (by omega)] at j10
                rw [hbad j10.symm]
                exact ⟨rfl, hp⟩
              · rw [if_pos (by omega)] at j10
                rw [hbad j10.symm]
                exact ⟨rfl, hp⟩
              · rw [if_neg (by omega), if_pos (by simp; omega)] at j10
                refine bind_freeze (f := iA) hr hp ?_
                intro K hp
                repeat' (first | simp (disch := first | omega | assumption | decide) only [go_sem, hm, hz, ht, hr_, g0, g5, g8, g9, g10, g11, hlen] | refine ifP_in (fun _ => ?_) (fun _ => ?_))
                rw [hgood l j10.symm]
                exact ⟨rfl, hp⟩
      · rename_i hcut
        rw [if_neg hcut, show cut.toNat = 0 by omega] at hdec
        have hr : RowOf iA H.length H nilA ([] : List Int) := RowOf.nil
        have hp := hpre
        have hdec : Puny.dec s = Puny.decL (s.length + 1) s [] 128 0 72 := hdec
        have hl0 : ([] : List Int).length ≤ s.length := by simp
        have hr0 : s.length ≤ s.length := by omega
        generalize ([] : List Int) = l0 at hr hdec hl0
        have hd2 : ∀ r0, r0 = s → True := fun _ _ => trivial
        refine rL_loop (σ := Nat × Nat × List Int × Int × Int × Int) (fun z e H' => H <+: H' ∧ e 0 = .str s ∧ e 11 = .i z.2.1 ∧ z.2.1 ≤ s.length ∧ e 8 = .i z.2.2.2.1 ∧ e 9 = .i z.2.2.2.2.1 ∧ e 10 = .i z.2.2.2.2.2 ∧ RowOf iA H.length H' (e 5) z.2.2.1 ∧ 0 ≤ z.2.2.2.1 ∧ z.2.2.2.1 ≤ 1114111 ∧ 0 ≤ z.2.2.2.2.1 ∧ z.2.2.2.2.1 ≤ 2147483647 ∧ 0 ≤ z.2.2.2.2.2 ∧ z.2.2.2.2.2 ≤ 400 ∧ z.2.2.1.length ≤ 4000 ∧ s.length + 1 ≤ z.1 + z.2.1 ∧ Puny.decL z.1 (s.drop z.2.1) z.2.2.1 z.2.2.2.1 z.2.2.2.2.1 z.2.2.2.2.2 = Puny.dec s) (fun z => s.length - z.2.1) (s.length + 1, 0, l0, 128, 0, 72) ?_ ?_
        · refine ⟨hp, (by simp (disch := first | omega | assumption | decide) only [go_sem, *] <;> rfl), (by simp (disch := first | omega | assumption | decide) only [go_sem, *] <;> rfl), (by first | omega | (simp only; omega) | (simp; done) | (simp; omega)), (by simp (disch := first | omega | assumption | decide) only [go_sem, *] <;> rfl), (by simp (disch := first | omega | assumption | decide) only [go_sem, *] <;> rfl), (by simp (disch := first | omega | assumption | decide) only [go_sem, *] <;> rfl), ?_, (by first | omega | (simp only; omega) | (simp; done) | (simp; omega)), (by first | omega | (simp only; omega) | (simp; done) | (simp; omega)), (by first | omega | (simp only; omega) | (simp; done) | (simp; omega)), (by first | omega | (simp only; omega) | (simp; done) | (simp; omega)), (by first | omega | (simp only; omega) | (simp; done) | (simp; omega)), (by first | omega | (simp only; omega) | (simp; done) | (simp; omega)), (by first | omega | (simp only; omega) | (simp; done) | (simp; omega)), (by first | omega | (simp only; omega) | (simp; done) | (simp; omega)), ?_⟩
          · simp (disch := first | omega | assumption | decide) only [go_sem, *]
          · simp only [List.drop_zero]; exact hdec.symm
        · clear g0 hr hp hdec
          rintro ⟨k, at_, l, n, i, bias⟩ e K ⟨hp, g0, g11, j1, g8, g9, g10, hr, j2, j3, j4, j5, j6, j7, j8, j9, j10⟩
          simp only at g0 g11 j1 g8 g9 g10 hr j2 j3 j4 j5 j6 j7 j8 j9 j10
          generalize g5 : e 5 = a at *
          have hlen : ∀ el, lenD (some (.slice el)) (owA a) = some (.v (.int .i64 l.length)) := fun el => hr.len
          obtain ⟨k, rfl⟩ : ∃ k', k = k' + 1 := ⟨k - 1, by omega⟩
          rw [Puny.decL] at j10
          repeat' (first | simp (disch := first | omega | assumption | decide) only [go_sem, hm, hz, ht, hr_, g0, g5, g8, g9, g10, g11, hlen] | refine ifP_in (fun _ => ?_) (fun _ => ?_))
          · have hat : at_ < s.length := by omega
            refine rF_use (delta_w s at_ i bias (by omega) (by omega) (by omega) (by omega)) ?_
            rintro _ K ⟨rfl, rfl⟩
            have hsh := Puny.deltaR_shift bias (s.drop at_) 0 at_ i 1 36
            rw [Int.zero_add] at hsh
            rw [Int.toNat_natCast, hsh]
            have hbn := Puny.deltaR_bnd bias (s.drop at_) 0 i 1 36
            rw [if_neg (by omega), if_neg (by simp; omega)] at j10
            cases hd : Puny.deltaR (s.drop at_) 0 i 1 36 bias with
            | none =>
              rw [hd] at j10
              simp only [Option.map_none, deltaA]
              repeat' (first | simp (disch := first | omega | assumption | decide) only [go_sem, hm, hz, ht, hr_, g0, g5, g8, g9, g10, g11, hlen] | refine ifP_in (fun _ => ?_) (fun _ => ?_))
              rw [hbad j10.symm]
              exact ⟨rfl, hp⟩
            | some q =>
              obtain ⟨x, e'⟩ := q
              rw [hd] at j10
              simp only at j10
              have hbn := hbn x e' (by omega) (by omega) (by omega) hd
              rw [List.length_drop] at hbn
              simp only [Option.map_some, deltaA]
              repeat' (first | simp (disch := first | omega | assumption | decide) only [go_sem, hm, hz, ht, hr_, g0, g5, g8, g9, g10, g11, hlen] | refine ifP_in (fun _ => ?_) (fun _ => ?_))
              refine rF_use (adapt_w (x - i) (l.length + 1) (decide (i = 0)) (by omega) (by omega)) ?_
              rintro _ K ⟨rfl, rfl⟩
              have hab := Puny.adapt_bnd (x - i) (l.length + 1) (decide (i = 0)) (by omega) (by omega) (by omega)
              have hx1 : 0 ≤ x / ((l.length : Int) + 1) := Int.ediv_nonneg (by omega) (by omega)
              have hx2 : x / ((l.length : Int) + 1) ≤ x := Int.ediv_le_self _ (by omega)
              have hx3 : 0 ≤ x % ((l.length : Int) + 1) := Int.emod_nonneg _ (by omega)
              have hx4 : x % ((l.length : Int) + 1) < l.length + 1 := Int.emod_lt_of_pos _ (by omega)
              repeat' (first | simp (disch := first | omega | assumption | decide) only [go_sem, hm, hz, ht, hr_, g0, g5, g8, g9, g10, g11, hlen] | refine ifP_in (fun _ => ?_) (fun _ => ?_))
              · rw [if_pos (by omega)] at j10
                rw [hbad j10.symm]
                exact ⟨rfl, hp⟩
              · rw [if_neg (by omega)] at j10
                refine rF_use (scalar_w _) ?_
                rintro _ K ⟨rfl, rfl⟩
                cases hsc : Puny.scalar (n + x / ((l.length : Int) + 1)) with
                | false =>
                  rw [if_pos hsc] at j10
                  repeat' (first | simp (disch := first | omega | assumption | decide) only [go_sem, hm, hz, ht, hr_, g0, g5, g8, g9, g10, g11, hlen] | refine ifP_in (fun _ => ?_) (fun _ => ?_))
                  rw [hbad j10.symm]
                  exact ⟨rfl, hp⟩
                | true =>
                  have hsb := Puny.scalar_bnd hsc
                  rw [if_neg (by rw [hsc]; simp)] at j10
                  repeat' (first | simp (disch := first | omega | assumption | decide) only [go_sem, hm, hz, ht, hr_, g0, g5, g8, g9, g10, g11, hlen] | refine ifP_in (fun _ => ?_) (fun _ => ?_))
                  refine rF_use (insert_w hr hp (x % ((l.length : Int) + 1)) (n + x / ((l.length : Int) + 1)) (by omega) (by omega) (by omega)) ?_
                  rintro a' K' ⟨hr', hp'⟩
                  repeat' (first | simp (disch := first | omega | assumption | decide) only [go_sem, hm, hz, ht, hr_, g0, g5, g8, g9, g10, g11, hlen] | refine ifP_in (fun _ => ?_) (fun _ => ?_))
                  refine ⟨(k, at_ + e'.toNat, _, _, _, _), ⟨hp', ?_, by simp only; omega, rfl, rfl, rfl, hr', (by first | omega | (simp only; omega) | (simp; done) | (simp; omega)), (by first | omega | (simp only; omega) | (simp; done) | (simp; omega)), (by first | omega | (simp only; omega) | (simp; done) | (simp; omega)), (by first | omega | (simp only; omega) | (simp; done) | (simp; omega)), hab.1, hab.2, ?_, (by first | omega | (simp only; omega) | (simp; done) | (simp; omega)), ?_⟩, by simp only; omega⟩
                  · simp only; congr 1; omega
                  · simp only [List.length_append, List.length_take, List.length_cons, List.length_drop]; omega
                  · simp only
                    rw [← List.drop_drop]
                    exact j10
          · rw [if_pos (by omega)] at j10
            rw [hbad j10.symm]
            exact ⟨rfl, hp⟩
          · rw [if_pos (by omega)] at j10
            rw [hbad j10.symm]
            exact ⟨rfl, hp⟩
          · rw [if_neg (by omega), if_pos (by simp; omega)] at j10
            refine bind_freeze (f := iA) hr hp ?_
            intro K hp
            repeat' (first | simp (disch := first | omega | assumption | decide) only [go_sem, hm, hz, ht, hr_, g0, g5, g8, g9, g10, g11, hlen] | refine ifP_in (fun _ => ?_) (fun _ => ?_))
            rw [hgood l j10.symm]
            exact ⟨rfl, hp⟩
end Pu
end Go.Proofs
/- Walks through the document's reading of signs by few letters. -/
set_option linter.unusedVariables false
set_option linter.unusedSimpArgs false
namespace Go.Proofs
open Go.Lv
namespace Pu
variable {H : Heap}

theorem last_step {s : List UInt8} {i : Nat} (h : i < s.length) (c : UInt8) : Puny.lastIx s c (i + 1) = if (ix s (i : Int)).toNat = c.toNat then (i : Int) else Puny.lastIx s c i := by
  rw [Puny.lastIx, ← ix_getD]
  by_cases hc : ix s (i : Int) = c
  · rw [if_pos hc, if_pos (by rw [hc])]
  · rw [if_neg hc, if_neg (fun h => hc (UInt8.toNat_inj.1 h))]

set_option maxHeartbeats 2000000 in
theorem unpuny_r (s : List UInt8) (hs : s.length ≤ 140737488355328) : WF Tryd.prog cfg 28 [.str s] H (fun r H' => r = .tup [.sl ((Puny.decode s).1.map iA), .i (Puny.decode s).2] ∧ H <+: H') := by
  have hm : ∀ d, cfg.muF 28 d = (d == 6 || d == 46 || d == 140) := fun _ => rfl
  have hz : ∀ d, cfg.fzF 28 d = (d == 2) := fun _ => rfl
  have ht : ∀ d, cfg.tkF 28 d = (false) := fun _ => rfl
  have hr_ : ∀ g, cfg.raw g = (g == 60 || g == 63) := fun _ => rfl
  refine rF_fn rfl rfl Tryd.func28 rfl ?_
  repeat' (first | simp (disch := first | omega | assumption | decide) only [go_sem, hm, hz, ht, hr_] | refine ifP_in (fun _ => ?_) (fun _ => ?_))
  · rw [Puny.decode, if_pos (by omega)]
    exact ⟨rfl, List.prefix_refl _⟩
  have hs : s.length ≤ 4000 := by omega
  have hbad : Puny.dec s = none → Puny.decode s = ([], 4) := fun h => by rw [Puny.decode, if_neg (by omega), h]
  have hgood : ∀ l, Puny.dec s = some l → Puny.decode s = (l, 0) := fun l h => by rw [Puny.decode, if_neg (by omega), h]
  refine rL_loop (σ := Nat) (fun i e H' => H' = H ∧ e 0 = .str s ∧ e 4 = .i (max (Puny.lastIx s 45 i) 0) ∧ e 5 = .i i ∧ i ≤ s.length ∧ ((s.take i).all fun c => decide (c.toNat < 128)) = true) (fun i => s.length - i) 0 ?_ ?_
  · exact ⟨rfl, (by simp (disch := first | omega | assumption | decide) only [go_sem, *] <;> rfl), (by simp (disch := first | omega | assumption | decide) only [go_sem, *] <;> rfl), (by simp (disch := first | omega | assumption | decide) only [go_sem, *] <;> rfl), by omega, rfl⟩
  · rintro i e H ⟨rfl, g0, g4, g5, gi, ga⟩
    by_cases hil : i < s.length
    · have hst := last_step hil 45
      have hge : ix s (i : Int) = s[i] := by simp [ix, List.getD_eq_getElem?_getD, List.getElem?_eq_getElem hil]
      have hall : (ix s (i : Int)).toNat < 128 → ((s.take (i + 1)).all fun c => decide (c.toNat < 128)) = true := by
        intro h
        rw [List.take_add_one, List.all_append, ga, List.getElem?_eq_getElem hil]
        rw [hge] at h
        simpa using h
      repeat' (first | simp (disch := first | omega | assumption | decide) only [go_sem, hm, hz, ht, hr_, g0, g4, g5] | refine ifP_in (fun _ => ?_) (fun _ => ?_))
      · rw [hbad (dec_all hil (by omega))]
        exact ⟨rfl, List.prefix_refl _⟩
      · rename_i h1 h2
        rw [if_pos (by have : (45 : UInt8).toNat = 45 := rfl
                       omega)] at hst
        refine ⟨i + 1, ⟨by rw [hst]; congr 2; omega, by simp, by omega, hall (by omega)⟩, by omega⟩
      · rename_i h1 h2
        rw [if_neg (by have : (45 : UInt8).toNat = 45 := rfl
                       omega)] at hst
        refine ⟨i + 1, ⟨by rw [hst], by simp, by omega, hall (by omega)⟩, by omega⟩
    · obtain rfl : i = s.length := by omega
      rw [List.take_length] at ga
      have hcb := Puny.lastIx_bnd s 45 s.length
      have hdec : Puny.dec s = Puny.decL (s.length + 1) (if 0 < Puny.cutAt s then s.drop (Puny.cutAt s + 1).toNat else s) ((s.take (Puny.cutAt s).toNat).map fun c => (c.toNat : Int)) 128 0 72 := by
        unfold Puny.dec; rw [if_pos ga]
      unfold Puny.cutAt at hdec
      generalize Puny.lastIx s 45 s.length = cut at *
      repeat' (first | simp (disch := first | omega | assumption | decide) only [go_sem, hm, hz, ht, hr_, g0, g4, g5] | refine ifP_in (fun _ => ?_) (fun _ => ?_))
      refine rL_loop (σ := Nat) (fun i e H' => H <+: H' ∧ e 0 = .str s ∧ e 4 = .i (max cut 0) ∧ e 7 = .i i ∧ i ≤ max cut 0 ∧ RowOf iA H.length H' (e 6) ((s.take i).map fun c => (c.toNat : Int))) (fun i => cut.toNat - i) 0 ?_ ?_
      · exact ⟨List.prefix_refl _, (by simp (disch := first | omega | assumption | decide) only [go_sem, *] <;> rfl), (by simp (disch := first | omega | assumption | decide) only [go_sem, *] <;> rfl), (by simp (disch := first | omega | assumption | decide) only [go_sem, *] <;> rfl), by omega, .inl ⟨(by simp (disch := first | omega | assumption | decide) only [go_sem, *] <;> rfl), rfl⟩⟩
      · clear g0 g4 g5
        rintro i e K ⟨hp, g0, g4, g7, gi, hr⟩
        generalize g6 : e 6 = a at *
        by_cases hil : i < cut
        · have hlt : i < s.length := by omega
          repeat' (first | simp (disch := first | omega | assumption | decide) only [go_sem, hm, hz, ht, hr_, g0, g4, g6, g7] | refine ifP_in (fun _ => ?_) (fun _ => ?_))
          refine bind_append (f := iA) (ys := [((ix s (i : Int)).toNat : Int)]) hr hp ?_ (by simp) ?_ ?_
          · rfl
          · simp; omega
          intro a' K hr' hp'
          repeat' (first | simp (disch := first | omega | assumption | decide) only [go_sem, hm, hz, ht, hr_, g0, g4, g6, g7] | refine ifP_in (fun _ => ?_) (fun _ => ?_))
          refine ⟨i + 1, ⟨hp', rfl, by omega, ?_⟩, by omega⟩
          rw [bytes_take hlt]
          exact hr'
        · have hmi : max cut 0 = (i : Int) := by omega
          rw [hmi] at g4
          repeat' (first | simp (disch := first | omega | assumption | decide) only [go_sem, hm, hz, ht, hr_, g0, g4, g6, g7] | refine ifP_in (fun _ => ?_) (fun _ => ?_))
          · obtain ⟨at0, hat0⟩ : ∃ at0 : Nat, at0 = i + 1 := ⟨_, rfl⟩
            have hdec : Puny.dec s = Puny.decL (s.length + 1) (s.drop at0) ((s.take i).map fun c => (c.toNat : Int)) 128 0 72 := by
              rw [hdec, if_pos (by omega), hat0]
              rw [show (cut + 1).toNat = i + 1 by omega, show cut.toNat = i by omega]
            have hae : (i : Int) + 1 = (at0 : Int) := by omega
            refine rL_loop (σ := Nat × Nat × List Int × Int × Int × Int) (fun z e H' => H <+: H' ∧ e 0 = .str s ∧ e 8 = .i z.2.1 ∧ z.2.1 ≤ s.length ∧ e 9 = .i z.2.2.2.1 ∧ e 10 = .i z.2.2.2.2.1 ∧ e 11 = .i z.2.2.2.2.2 ∧ RowOf iA H.length H' (e 6) z.2.2.1 ∧ 0 ≤ z.2.2.2.1 ∧ z.2.2.2.1 ≤ 1114111 ∧ 0 ≤ z.2.2.2.2.1 ∧ z.2.2.2.2.1 ≤ 2147483647 ∧ 0 ≤ z.2.2.2.2.2 ∧ z.2.2.2.2.2 ≤ 400 ∧ z.2.2.1.length ≤ 4000 ∧ s.length + 1 ≤ z.1 + z.2.1 ∧ Puny.decL z.1 (s.drop z.2.1) z.2.2.1 z.2.2.2.1 z.2.2.2.2.1 z.2.2.2.2.2 = Puny.dec s) (fun z => s.length - z.2.1) (s.length + 1, at0, (s.take i).map (fun c => (c.toNat : Int)), 128, 0, 72) ?_ ?_
            · refine ⟨hp, (by simp (disch := first | omega | assumption | decide) only [go_sem, *] <;> rfl), ?_, (by first | omega | (simp only; omega) | (simp; done) | (simp; omega)), (by simp (disch := first | omega | assumption | decide) only [go_sem, *] <;> rfl), (by simp (disch := first | omega | assumption | decide) only [go_sem, *] <;> rfl), (by simp (disch := first | omega | assumption | decide) only [go_sem, *] <;> rfl), ?_, (by first | omega | (simp only; omega) | (simp; done) | (simp; omega)), (by first | omega | (simp only; omega) | (simp; done) | (simp; omega)), (by first | omega | (simp only; omega) | (simp; done) | (simp; omega)), (by first | omega | (simp only; omega) | (simp; done) | (simp; omega)), (by first | omega | (simp only; omega) | (simp; done) | (simp; omega)), (by first | omega | (simp only; omega) | (simp; done) | (simp; omega)), (by first | omega | (simp only; omega) | (simp; done) | (simp; omega)), (by first | omega | (simp only; omega) | (simp; done) | (simp; omega)), ?_⟩
              · simp (disch := first | omega | assumption | decide) only [go_sem, *]
              · simp (disch := first | omega | assumption | decide) only [go_sem, g6]; exact hr
              · exact hdec.symm
            · clear g0 g4 g6 g7 hr hp hdec
              rintro ⟨k, at_, l, n, i, bias⟩ e K ⟨hp, g0, g8, j1, g9, g10, g11, hr, j2, j3, j4, j5, j6, j7, j8, j9, j10⟩
              simp only at g0 g8 j1 g9 g10 g11 hr j2 j3 j4 j5 j6 j7 j8 j9 j10
              generalize g6 : e 6 = a at *
              have hlen : ∀ el, lenD (some (.slice el)) (owA a) = some (.v (.int .i64 l.length)) := fun el => hr.len
              obtain ⟨k, rfl⟩ : ∃ k', k = k' + 1 := ⟨k - 1, by omega⟩
              by_cases hat : at_ < s.length
              · have hsh := Puny.deltaR_shift bias (s.drop at_) 0 at_ i 1 36
                rw [Int.zero_add] at hsh
                have hbn := Puny.deltaR_bnd bias (s.drop at_) 0 i 1 36
                have hln : ¬ (s.drop at_).length = 0 := by simp; omega
                generalize hD : Puny.deltaR (s.drop at_) at_ i 1 36 bias = D at *
                have hDn : D = none → Puny.dec s = none := by
                  intro h
                  rw [h] at hsh
                  have : Puny.deltaR (s.drop at_) 0 i 1 36 bias = none := by
                    cases hq : Puny.deltaR (s.drop at_) 0 i 1 36 bias with
                    | none => rfl
                    | some q => rw [hq] at hsh; cases hsh
                  rw [← j10, Puny.decL]
                  split
                  · rfl
                  · first | rw [if_neg hln, this] | rw [this]
                have hDs : ∀ x e, D = some (x, e) → at_ < e ∧ e ≤ s.length ∧ i ≤ x ∧ x ≤ 2147483647 ∧ (256 < l.length ∨ 2147483647 < n + x / (l.length + 1) ∨ Puny.scalar (n + x / (l.length + 1)) = false → Puny.dec s = none) ∧
                    (l.length ≤ 256 → ¬ 2147483647 < n + x / (l.length + 1) → Puny.scalar (n + x / (l.length + 1)) = true → Puny.decL k (s.drop e.toNat) (l.take (x % (l.length + 1)).toNat ++ (n + x / (l.length + 1)) :: l.drop (x % (l.length + 1)).toNat) (n + x / (l.length + 1)) (x % (l.length + 1) + 1) (Puny.adapt (x - i) (l.length + 1) (decide (i = 0))) = Puny.dec s) := by
                  intro x e h
                  rw [h] at hsh
                  cases hq : Puny.deltaR (s.drop at_) 0 i 1 36 bias with
                  | none => rw [hq] at hsh; cases hsh
                  | some q =>
                    obtain ⟨x', e'⟩ := q
                    rw [hq] at hsh
                    simp only [Option.map_some, Option.some.injEq, Prod.mk.injEq] at hsh
                    obtain ⟨rfl, rfl⟩ := hsh
                    have hbn := hbn x e' (by omega) (by omega) (by omega) hq
                    rw [List.length_drop] at hbn
                    refine ⟨by omega, by omega, by omega, by omega, fun h => ?_, fun h1 h2 h3 => ?_⟩
                    · rw [← j10, Puny.decL]
                      split
                      · rfl
                      · rename_i hs1
                        first | rw [if_neg hln, hq] | rw [hq]
                        simp only
                        split
                        · rfl
                        · rename_i hs2
                          rw [if_pos (by rcases h with h | h | h; exact absurd h hs1; exact absurd h hs2; exact h)]
                    · rw [← j10, Puny.decL, if_neg (by omega), if_neg hln, hq]
                      simp only
                      rw [if_neg h2, if_neg (by rw [h3]; simp), List.drop_drop]
                      rw [show (e' + at_).toNat = at_ + e'.toNat by omega]
                clear hbn hsh
                repeat' (first | simp (disch := first | omega | assumption | decide) only [go_sem, hm, hz, ht, hr_, g0, g6, g8, g9, g10, g11, hlen] | refine ifP_in (fun _ => ?_) (fun _ => ?_))
                refine rL_loop (σ := Nat × Int × Int × Int) (fun z e H' => H' = K ∧ e 0 = .str s ∧ e 6 = a ∧ e 9 = .i n ∧ e 11 = .i bias ∧ e 12 = .i i ∧ e 8 = .i z.1 ∧ e 10 = .i z.2.1 ∧ e 13 = .i z.2.2.1 ∧ e 14 = .i z.2.2.2 ∧ at_ ≤ z.1 ∧ z.1 ≤ s.length ∧ 0 ≤ z.2.1 ∧ z.2.1 ≤ 2147483647 ∧ 1 ≤ z.2.2.1 ∧ z.2.2.1 ≤ 2147483647 ∧ 0 ≤ z.2.2.2 ∧ z.2.2.2 ≤ 36 + 36 * z.1 ∧ Puny.deltaR (s.drop z.1) z.1 z.2.1 z.2.2.1 z.2.2.2 bias = D) (fun z => s.length - z.1) (at_, i, 1, 36) ?_ ?_
                · exact ⟨rfl, (by simp (disch := first | omega | assumption | decide) only [go_sem, *] <;> rfl), (by simp (disch := first | omega | assumption | decide) only [go_sem, *] <;> rfl), (by simp (disch := first | omega | assumption | decide) only [go_sem, *] <;> rfl), (by simp (disch := first | omega | assumption | decide) only [go_sem, *] <;> rfl), (by simp (disch := first | omega | assumption | decide) only [go_sem, *] <;> rfl), (by simp (disch := first | omega | assumption | decide) only [go_sem, *] <;> rfl), (by simp (disch := first | omega | assumption | decide) only [go_sem, *] <;> rfl), (by simp (disch := first | omega | assumption | decide) only [go_sem, *] <;> rfl), (by simp (disch := first | omega | assumption | decide) only [go_sem, *] <;> rfl), (by first | omega | (simp only; omega) | (simp; done) | (simp; omega)), (by first | omega | (simp only; omega) | (simp; done) | (simp; omega)), (by first | omega | (simp only; omega) | (simp; done) | (simp; omega)), (by first | omega | (simp only; omega) | (simp; done) | (simp; omega)), (by first | omega | (simp only; omega) | (simp; done) | (simp; omega)), (by first | omega | (simp only; omega) | (simp; done) | (simp; omega)), (by first | omega | (simp only; omega) | (simp; done) | (simp; omega)), (by first | omega | (simp only; omega) | (simp; done) | (simp; omega)), hD⟩
                · clear hD g0 g6 g8 g9 g10 g11
                  rintro ⟨at', i', w, k'⟩ e K ⟨rfl, g0, g6, g9, g11, g12, g8, g10, g13, g14, q1, q2, q3, q4, q5, q6, q7, q8, q9⟩
                  simp only at g0 g6 g9 g11 g12 g8 g10 g13 g14 q1 q2 q3 q4 q5 q6 q7 q8 q9
                  by_cases hat' : at' < s.length
                  · have hdrop : s.drop at' = ix s (at' : Int) :: s.drop (at' + 1) := by
                      rw [List.drop_eq_getElem_cons hat']
                      simp [ix, List.getD_eq_getElem?_getD, List.getElem?_eq_getElem hat']
                    rw [hdrop, Puny.deltaR] at q9
                    repeat' (first | simp (disch := first | omega | assumption | decide) only [go_sem, hm, hz, ht, hr_, g0, g6, g9, g11, g12, g8, g10, g13, g14, hlen] | refine ifP_in (fun _ => ?_) (fun _ => ?_))
                    refine rF_use (val_r _) ?_
                    rintro _ K ⟨rfl, rfl⟩
                    generalize ix s (at' : Int) = c at *
                    have d1 := dgt_bnd c
                    generalize Puny.dgt c = d at *
                    have r1 : 0 ≤ (2147483647 - i') / w := Int.ediv_nonneg (by omega) (by omega)
                    have r2 : (2147483647 - i') / w ≤ 2147483647 - i' := Int.ediv_le_self _ (by omega)
                    have hdv : (if d = 36 then (-1 : Int) else d) < 0 ↔ d = 36 := by split <;> omega
                    by_cases hd36 : d = 36
                    · rw [if_pos (.inl hd36)] at q9
                      rw [if_pos hd36]
                      repeat' (first | simp (disch := first | omega | assumption | decide) only [go_sem, hm, hz, ht, hr_, g0, g6, g9, g11, g12, g8, g10, g13, g14, hlen] | refine ifP_in (fun _ => ?_) (fun _ => ?_))
                      rw [hbad (hDn q9.symm)]
                      exact ⟨rfl, hp⟩
                    · rw [if_neg hd36]
                      repeat' (first | simp (disch := first | omega | assumption | decide) only [go_sem, hm, hz, ht, hr_, g0, g6, g9, g11, g12, g8, g10, g13, g14, hlen] | refine ifP_in (fun _ => ?_) (fun _ => ?_))
                      · rw [if_pos (by omega)] at q9
                        rw [hbad (hDn q9.symm)]
                        exact ⟨rfl, hp⟩
                      · rename_i hgt
                        rw [if_neg (by omega)] at q9
                        refine rF_use (thr_r k' bias (by omega) (by omega)) ?_
                        rintro _ K ⟨rfl, rfl⟩
                        have t1 := Puny.thr_bnd k' bias
                        generalize Puny.thr k' bias = th at *
                        have r3 : d * w ≤ 2147483647 - i' := Int.le_trans (Int.mul_le_mul_of_nonneg_right (by omega : d ≤ (2147483647 - i') / w) (by omega)) (Int.ediv_mul_le _ (by omega))
                        have r4 : 0 ≤ d * w := Int.mul_nonneg (by omega) (by omega)
                        have r5 : 0 ≤ 2147483647 / (36 - th) := Int.ediv_nonneg (by omega) (by omega)
                        have r6 : 2147483647 / (36 - th) ≤ 2147483647 := Int.ediv_le_self _ (by omega)
                        by_cases hdt : d < th
                        · rw [if_pos hdt] at q9
                          obtain ⟨y1, y2, y3, y4, y5, y6⟩ := hDs _ _ q9.symm
                          have hx0 : i' + d * w < 1000000000000 := by omega
                          repeat' (first | simp (disch := first | omega | assumption | decide) only [go_sem, hm, hz, ht, hr_, g0, g6, g9, g11, g12, g8, g10, g13, g14, hlen] | refine ifP_in (fun _ => ?_) (fun _ => ?_))
                          generalize i' + d * w = x at *
                          have hab := Puny.adapt_bnd (x - i) (l.length + 1) (decide (i = 0)) (by omega) (by omega) (by omega)
                          have hx1 : 0 ≤ x / ((l.length : Int) + 1) := Int.ediv_nonneg (by omega) (by omega)
                          have hx2 : x / ((l.length : Int) + 1) ≤ x := Int.ediv_le_self _ (by omega)
                          have hx3 : 0 ≤ x % ((l.length : Int) + 1) := Int.emod_nonneg _ (by omega)
                          have hx4 : x % ((l.length : Int) + 1) < l.length + 1 := Int.emod_lt_of_pos _ (by omega)
                          refine rF_use (adapt_r (x - i) (l.length + 1) (decide (i = 0)) (by omega) (by omega)) ?_
                          rintro _ K ⟨rfl, rfl⟩
                          generalize Puny.adapt (x - i) (l.length + 1) (decide (i = 0)) = bias' at *
                          repeat' (first | simp (disch := first | omega | assumption | decide) only [go_sem, hm, hz, ht, hr_, g0, g6, g9, g11, g12, g8, g10, g13, g14, hlen] | refine ifP_in (fun _ => ?_) (fun _ => ?_))
                          rotate_left
                          · rw [hbad (y5 (.inr (.inl (by omega))))]
                            exact ⟨rfl, hp⟩
                          · refine rF_use (scalar_r _) ?_
                            rintro _ K ⟨rfl, rfl⟩
                            cases hsc : Puny.scalar (n + x / ((l.length : Int) + 1)) with
                            | false =>
                              repeat' (first | simp (disch := first | omega | assumption | decide) only [go_sem, hm, hz, ht, hr_, g0, g6, g9, g11, g12, g8, g10, g13, g14, hlen] | refine ifP_in (fun _ => ?_) (fun _ => ?_))
                              rw [hbad (y5 (.inr (.inr hsc)))]
                              exact ⟨rfl, hp⟩
                            | true =>
                              have hsb := Puny.scalar_bnd hsc
                              by_cases hlb : 256 ≤ l.length
                              · have hnone : Puny.dec s = none := by
                                  by_cases hb2 : 256 < l.length
                                  · exact y5 (.inl hb2)
                                  · rw [← y6 (by omega) (by omega) hsc]
                                    obtain ⟨k, rfl⟩ : ∃ k'', k = k'' + 1 := ⟨k - 1, by omega⟩
                                    rw [Puny.decL, if_pos (by simp only [List.length_append, List.length_take, List.length_cons, List.length_drop]; omega)]
                                repeat' (first | simp (disch := first | omega | assumption | decide) only [go_sem, hm, hz, ht, hr_, g0, g6, g9, g11, g12, g8, g10, g13, g14, hlen] | refine ifP_in (fun _ => ?_) (fun _ => ?_))
                                rw [hbad hnone]
                                exact ⟨rfl, hp⟩
                              · have y6 := y6 (by omega) (by omega) hsc
                                generalize hq : x % ((l.length : Int) + 1) = q at *
                                obtain ⟨m, rfl⟩ : ∃ m : Nat, q = m := ⟨q.toNat, by omega⟩
                                rw [Int.toNat_natCast] at y6
                                clear y5 q9 hDs hDn j10
                                have fin : ∀ a' K', RowOf iA H.length K' a' (l.take m ++ (n + x / ((l.length : Int) + 1)) :: l.drop m) → H <+: K' → True := fun _ _ _ _ => trivial
                                rcases hr with ⟨rfl, rfl⟩ | ⟨j, hj, rfl, hH, hx⟩
                                · obtain rfl : m = 0 := by simp at hx4; omega
                                  repeat' (first | simp (disch := first | omega | assumption | decide) only [go_sem, hm, hz, ht, hr_, g0, g6, g9, g11, g12, g8, g10, g13, g14, hlen] | refine ifP_in (fun _ => ?_) (fun _ => ?_))
                                  refine bind_append (f := iA) (ys := [n + x / (((0 : Nat) : Int) + 1)]) (RowOf.nil) hp ?_ (by simp) ?_ ?_
                                  · rfl
                                  · simp
                                  intro a' K hr' hp'
                                  repeat' (first | simp (disch := first | omega | assumption | decide) only [go_sem, hm, hz, ht, hr_, g0, g6, g9, g11, g12, g8, g10, g13, g14, hlen] | refine ifP_in (fun _ => ?_) (fun _ => ?_))
                                  refine ⟨(k, at' + 1, _, _, _, bias'), ⟨hp', (by first | omega | (simp only; omega) | (simp; done) | (simp; omega)), (by first | omega | (simp only; omega) | (simp; done) | (simp; omega)), rfl, rfl, rfl, hr', (by first | omega | (simp only; omega) | (simp; done) | (simp; omega)), (by first | omega | (simp only; omega) | (simp; done) | (simp; omega)), (by first | omega | (simp only; omega) | (simp; done) | (simp; omega)), (by first | omega | (simp only; omega) | (simp; done) | (simp; omega)), hab.1, hab.2, (by first | omega | (simp only; omega) | (simp; done) | (simp; omega)), (by first | omega | (simp only; omega) | (simp; done) | (simp; omega)), y6⟩, (by first | omega | (simp only; omega) | (simp; done) | (simp; omega))⟩
                                · by_cases hml : m < l.length
                                  · have hdl : (l.drop m).length ≤ 4000 := by simp; omega
                                    repeat' (first | simp (disch := first | omega | assumption | decide) only [go_sem, hm, hz, ht, hr_, g0, g6, g9, g11, g12, g8, g10, g13, g14, hlen] | refine ifP_in (fun _ => ?_) (fun _ => ?_))
                                    rw [if_pos (.inl hml), view_mr (f := iA) hH (by omega) (by omega), List.take_of_length_le (by simp)]
                                    repeat' (first | simp (disch := first | omega | assumption | decide) only [go_sem, hm, hz, ht, hr_, g0, g6, g9, g11, g12, g8, g10, g13, g14, hlen] | refine ifP_in (fun _ => ?_) (fun _ => ?_))
                                    refine bind_cut (f := iA) (ys := (n + x / ((l.length : Int) + 1)) :: l.drop m) hp hj hH hx (by omega) ?_ (by simp) ?_ ?_
                                    · rfl
                                    · simp; omega
                                    intro a' K hr' hp'
                                    repeat' (first | simp (disch := first | omega | assumption | decide) only [go_sem, hm, hz, ht, hr_, g0, g6, g9, g11, g12, g8, g10, g13, g14, hlen] | refine ifP_in (fun _ => ?_) (fun _ => ?_))
                                    refine ⟨(k, at' + 1, _, _, _, bias'), ⟨hp', (by first | omega | (simp only; omega) | (simp; done) | (simp; omega)), (by first | omega | (simp only; omega) | (simp; done) | (simp; omega)), rfl, rfl, rfl, hr', (by first | omega | (simp only; omega) | (simp; done) | (simp; omega)), (by first | omega | (simp only; omega) | (simp; done) | (simp; omega)), (by first | omega | (simp only; omega) | (simp; done) | (simp; omega)), (by first | omega | (simp only; omega) | (simp; done) | (simp; omega)), hab.1, hab.2, (by simp only [List.length_append, List.length_take, List.length_cons, List.length_drop, List.length_nil]; omega), (by first | omega | (simp only; omega) | (simp; done) | (simp; omega)), y6⟩, (by first | omega | (simp only; omega) | (simp; done) | (simp; omega))⟩
                                  · obtain rfl : m = l.length := by omega
                                    repeat' (first | simp (disch := first | omega | assumption | decide) only [go_sem, hm, hz, ht, hr_, g0, g6, g9, g11, g12, g8, g10, g13, g14, hlen] | refine ifP_in (fun _ => ?_) (fun _ => ?_))
                                    rw [if_neg (by omega)]
                                    repeat' (first | simp (disch := first | omega | assumption | decide) only [go_sem, hm, hz, ht, hr_, g0, g6, g9, g11, g12, g8, g10, g13, g14, hlen] | refine ifP_in (fun _ => ?_) (fun _ => ?_))
                                    refine bind_cut (f := iA) (ys := [n + x / ((l.length : Int) + 1)]) hp hj hH hx (by omega) ?_ (by simp) ?_ ?_
                                    · rfl
                                    · simp; omega
                                    intro a' K hr' hp'
                                    repeat' (first | simp (disch := first | omega | assumption | decide) only [go_sem, hm, hz, ht, hr_, g0, g6, g9, g11, g12, g8, g10, g13, g14, hlen] | refine ifP_in (fun _ => ?_) (fun _ => ?_))
                                    refine ⟨(k, at' + 1, _, _, _, bias'), ⟨hp', (by first | omega | (simp only; omega) | (simp; done) | (simp; omega)), (by first | omega | (simp only; omega) | (simp; done) | (simp; omega)), rfl, rfl, rfl, hr', (by first | omega | (simp only; omega) | (simp; done) | (simp; omega)), (by first | omega | (simp only; omega) | (simp; done) | (simp; omega)), (by first | omega | (simp only; omega) | (simp; done) | (simp; omega)), (by first | omega | (simp only; omega) | (simp; done) | (simp; omega)), hab.1, hab.2, (by simp only [List.length_append, List.length_take, List.length_cons, List.length_drop, List.length_nil]; omega), (by first | omega | (simp only; omega) | (simp; done) | (simp; omega)), (by rw [List.drop_length] at y6; exact y6)⟩, (by first | omega | (simp only; omega) | (simp; done) | (simp; omega))⟩
                        · rw [if_neg hdt] at q9
                          repeat' (first | simp (disch := first | omega | assumption | decide) only [go_sem, hm, hz, ht, hr_, g0, g6, g9, g11, g12, g8, g10, g13, g14, hlen] | refine ifP_in (fun _ => ?_) (fun _ => ?_))
                          · rw [if_pos (by omega)] at q9
                            rw [hbad (hDn q9.symm)]
                            exact ⟨rfl, hp⟩
                          · rw [if_neg (by omega)] at q9
                            have r7 : w * (36 - th) ≤ 2147483647 := Int.le_trans (Int.mul_le_mul_of_nonneg_right (by omega : w ≤ 2147483647 / (36 - th)) (by omega)) (Int.ediv_mul_le _ (by omega))
                            have r8 : 1 * 1 ≤ w * (36 - th) := Int.mul_le_mul (by omega) (by omega) (by omega) (by omega)
                            repeat' (first | simp (disch := first | omega | assumption | decide) only [go_sem, hm, hz, ht, hr_, g0, g6, g9, g11, g12, g8, g10, g13, g14, hlen] | refine ifP_in (fun _ => ?_) (fun _ => ?_))
                            refine ⟨(at' + 1, i' + d * w, w * (36 - th), k' + 36), ⟨rfl, rfl, rfl, rfl, (by first | omega | (simp only; omega) | (simp; done) | (simp; omega)), (by first | omega | (simp only; omega) | (simp; done) | (simp; omega)), (by first | omega | (simp only; omega) | (simp; done) | (simp; omega)), (by first | omega | (simp only; omega) | (simp; done) | (simp; omega)), (by first | omega | (simp only; omega) | (simp; done) | (simp; omega)), (by first | omega | (simp only; omega) | (simp; done) | (simp; omega)), (by first | omega | (simp only; omega) | (simp; done) | (simp; omega)), (by first | omega | (simp only; omega) | (simp; done) | (simp; omega)), ?_⟩, (by first | omega | (simp only; omega) | (simp; done) | (simp; omega))⟩
                            exact q9
                  · have hse : s.drop at' = [] := List.drop_of_length_le (by omega)
                    rw [hse, Puny.deltaR] at q9
                    repeat' (first | simp (disch := first | omega | assumption | decide) only [go_sem, hm, hz, ht, hr_, g0, g6, g9, g11, g12, g8, g10, g13, g14, hlen] | refine ifP_in (fun _ => ?_) (fun _ => ?_))
                    rw [hbad (hDn q9.symm)]
                    exact ⟨rfl, hp⟩
              · have hse : s.drop at_ = [] := List.drop_of_length_le (by omega)
                rw [hse, Puny.decL] at j10
                repeat' (first | simp (disch := first | omega | assumption | decide) only [go_sem, hm, hz, ht, hr_, g0, g6, g8, g9, g10, g11, hlen] | refine ifP_in (fun _ => ?_) (fun _ => ?_))
                · rw [if_pos (by omega)] at j10
                  rw [hbad j10.symm]
                  exact ⟨rfl, hp⟩
                · rw [if_neg (by omega), if_pos (by simp)] at j10
                  refine bind_freeze (f := iA) hr hp ?_
                  intro K hp
                  repeat' (first | simp (disch := first | omega | assumption | decide) only [go_sem, hm, hz, ht, hr_, g0, g6, g8, g9, g10, g11, hlen] | refine ifP_in (fun _ => ?_) (fun _ => ?_))
                  rw [hgood l j10.symm]
                  exact ⟨rfl, hp⟩
          · obtain ⟨at0, hat0⟩ : ∃ at0 : Nat, at0 = 0 := ⟨_, rfl⟩
            have hdec : Puny.dec s = Puny.decL (s.length + 1) (s.drop at0) ((s.take i).map fun c => (c.toNat : Int)) 128 0 72 := by
              rw [hdec, if_neg (by omega), hat0]
              rw [show cut.toNat = i by omega]; rfl
            have hae : (0 : Int) = (at0 : Int) := by omega
            refine rL_loop (σ := Nat × Nat × List Int × Int × Int × Int) (fun z e H' => H <+: H' ∧ e 0 = .str s ∧ e 8 = .i z.2.1 ∧ z.2.1 ≤ s.length ∧ e 9 = .i z.2.2.2.1 ∧ e 10 = .i z.2.2.2.2.1 ∧ e 11 = .i z.2.2.2.2.2 ∧ RowOf iA H.length H' (e 6) z.2.2.1 ∧ 0 ≤ z.2.2.2.1 ∧ z.2.2.2.1 ≤ 1114111 ∧ 0 ≤ z.2.2.2.2.1 ∧ z.2.2.2.2.1 ≤ 2147483647 ∧ 0 ≤ z.2.2.2.2.2 ∧ z.2.2.2.2.2 ≤ 400 ∧ z.2.2.1.length ≤ 4000 ∧ s.length + 1 ≤ z.1 + z.2.1 ∧ Puny.decL z.1 (s.drop z.2.1) z.2.2.1 z.2.2.2.1 z.2.2.2.2.1 z.2.2.2.2.2 = Puny.dec s) (fun z => s.length - z.2.1) (s.length + 1, at0, (s.take i).map (fun c => (c.toNat : Int)), 128, 0, 72) ?_ ?_
            · refine ⟨hp, (by simp (disch := first | omega | assumption | decide) only [go_sem, *] <;> rfl), ?_, (by first | omega | (simp only; omega) | (simp; done) | (simp; omega)), (by simp (disch := first | omega | assumption | decide) only [go_sem, *] <;> rfl), (by simp (disch := first | omega | assumption | decide) only [go_sem, *] <;> rfl), (by simp (disch := first | omega | assumption | decide) only [go_sem, *] <;> rfl), ?_, (by first | omega | (simp only; omega) | (simp; done) | (simp; omega)), (by first | omega | (simp only; omega) | (simp; done) | (simp; omega)), (by first | omega | (simp only; omega) | (simp; done) | (simp; omega)), (by first | omega | (simp only; omega) | (simp; done) | (simp; omega)), (by first | omega | (simp only; omega) | (simp; done) | (simp; omega)), (by first | omega | (simp only; omega) | (simp; done) | (simp; omega)), (by first | omega | (simp only; omega) | (simp; done) | (simp; omega)), (by first | omega | (simp only; omega) | (simp; done) | (simp; omega)), ?_⟩
              · simp (disch := first | omega | assumption | decide) only [go_sem, *]
              · simp (disch := first | omega | assumption | decide) only [go_sem, g6]; exact hr
              · exact hdec.symm
            · clear g0 g4 g6 g7 hr hp hdec
              rintro ⟨k, at_, l, n, i, bias⟩ e K ⟨hp, g0, g8, j1, g9, g10, g11, hr, j2, j3, j4, j5, j6, j7, j8, j9, j10⟩
              simp only at g0 g8 j1 g9 g10 g11 hr j2 j3 j4 j5 j6 j7 j8 j9 j10
              generalize g6 : e 6 = a at *
              have hlen : ∀ el, lenD (some (.slice el)) (owA a) = some (.v (.int .i64 l.length)) := fun el => hr.len
              obtain ⟨k, rfl⟩ : ∃ k', k = k' + 1 := ⟨k - 1, by omega⟩
              by_cases hat : at_ < s.length
              · have hsh := Puny.deltaR_shift bias (s.drop at_) 0 at_ i 1 36
                rw [Int.zero_add] at hsh
                have hbn := Puny.deltaR_bnd bias (s.drop at_) 0 i 1 36
                have hln : ¬ (s.drop at_).length = 0 := by simp; omega
                generalize hD : Puny.deltaR (s.drop at_) at_ i 1 36 bias = D at *
                have hDn : D = none → Puny.dec s = none := by
                  intro h
                  rw [h] at hsh
                  have : Puny.deltaR (s.drop at_) 0 i 1 36 bias = none := by
                    cases hq : Puny.deltaR (s.drop at_) 0 i 1 36 bias with
                    | none => rfl
                    | some q => rw [hq] at hsh; cases hsh
                  rw [← j10, Puny.decL]
                  split
                  · rfl
                  · first | rw [if_neg hln, this] | rw [this]
                have hDs : ∀ x e, D = some (x, e) → at_ < e ∧ e ≤ s.length ∧ i ≤ x ∧ x ≤ 2147483647 ∧ (256 < l.length ∨ 2147483647 < n + x / (l.length + 1) ∨ Puny.scalar (n + x / (l.length + 1)) = false → Puny.dec s = none) ∧
                    (l.length ≤ 256 → ¬ 2147483647 < n + x / (l.length + 1) → Puny.scalar (n + x / (l.length + 1)) = true → Puny.decL k (s.drop e.toNat) (l.take (x % (l.length + 1)).toNat ++ (n + x / (l.length + 1)) :: l.drop (x % (l.length + 1)).toNat) (n + x / (l.length + 1)) (x % (l.length + 1) + 1) (Puny.adapt (x - i) (l.length + 1) (decide (i = 0))) = Puny.dec s) := by
                  intro x e h
                  rw [h] at hsh
                  cases hq : Puny.deltaR (s.drop at_) 0 i 1 36 bias with
                  | none => rw [hq] at hsh; cases hsh
                  | some q =>
                    obtain ⟨x', e'⟩ := q
                    rw [hq] at hsh
                    simp only [Option.map_some, Option.some.injEq, Prod.mk.injEq] at hsh
                    obtain ⟨rfl, rfl⟩ := hsh
                    have hbn := hbn x e' (by omega) (by omega) (by omega) hq
                    rw [List.length_drop] at hbn
                    refine ⟨by omega, by omega, by omega, by omega, fun h => ?_, fun h1 h2 h3 => ?_⟩
                    · rw [← j10, Puny.decL]
                      split
                      · rfl
                      · rename_i hs1
                        first | rw [if_neg hln, hq] | rw [hq]
                        simp only
                        split
                        · rfl
                        · rename_i hs2
                          rw [if_pos (by rcases h with h | h | h; exact absurd h hs1; exact absurd h hs2; exact h)]
                    · rw [← j10, Puny.decL, if_neg (by omega), if_neg hln, hq]
                      simp only
                      rw [if_neg h2, if_neg (by rw [h3]; simp), List.drop_drop]
                      rw [show (e' + at_).toNat = at_ + e'.toNat by omega]
                clear hbn hsh
                repeat' (first | simp (disch := first | omega | assumption | decide) only [go_sem, hm, hz, ht, hr_, g0, g6, g8, g9, g10, g11, hlen] | refine ifP_in (fun _ => ?_) (fun _ => ?_))
                refine rL_loop (σ := Nat × Int × Int × Int) (fun z e H' => H' = K ∧ e 0 = .str s ∧ e 6 = a ∧ e 9 = .i n ∧ e 11 = .i bias ∧ e 12 = .i i ∧ e 8 = .i z.1 ∧ e 10 = .i z.2.1 ∧ e 13 = .i z.2.2.1 ∧ e 14 = .i z.2.2.2 ∧ at_ ≤ z.1 ∧ z.1 ≤ s.length ∧ 0 ≤ z.2.1 ∧ z.2.1 ≤ 2147483647 ∧ 1 ≤ z.2.2.1 ∧ z.2.2.1 ≤ 2147483647 ∧ 0 ≤ z.2.2.2 ∧ z.2.2.2 ≤ 36 + 36 * z.1 ∧ Puny.deltaR (s.drop z.1) z.1 z.2.1 z.2.2.1 z.2.2.2 bias = D) (fun z => s.length - z.1) (at_, i, 1, 36) ?_ ?_
                · exact ⟨rfl, (by simp (disch := first | omega | assumption | decide) only [go_sem, *] <;> rfl), (by simp (disch := first | omega | assumption | decide) only [go_sem, *] <;> rfl), (by simp (disch := first | omega | assumption | decide) only [go_sem, *] <;> rfl), (by simp (disch := first | omega | assumption | decide) only [go_sem, *] <;> rfl), (by simp (disch := first | omega | assumption | decide) only [go_sem, *] <;> rfl), (by simp (disch := first | omega | assumption | decide) only [go_sem, *] <;> rfl), (by simp (disch := first | omega | assumption | decide) only [go_sem, *] <;> rfl), (by simp (disch := first | omega | assumption | decide) only [go_sem, *] <;> rfl), (by simp (disch := first | omega | assumption | decide) only [go_sem, *] <;> rfl), (by first | omega | (simp only; omega) | (simp; done) | (simp; omega)), (by first | omega | (simp only; omega) | (simp; done) | (simp; omega)), (by first | omega | (simp only; omega) | (simp; done) | (simp; omega)), (by first | omega | (simp only; omega) | (simp; done) | (simp; omega)), (by first | omega | (simp only; omega) | (simp; done) | (simp; omega)), (by first | omega | (simp only; omega) | (simp; done) | (simp; omega)), (by first | omega | (simp only; omega) | (simp; done) | (simp; omega)), (by first | omega | (simp only; omega) | (simp; done) | (simp; omega)), hD⟩
                · clear hD g0 g6 g8 g9 g10 g11
                  rintro ⟨at', i', w, k'⟩ e K ⟨rfl, g0, g6, g9, g11, g12, g8, g10, g13, g14, q1, q2, q3, q4, q5, q6, q7, q8, q9⟩
                  simp only at g0 g6 g9 g11 g12 g8 g10 g13 g14 q1 q2 q3 q4 q5 q6 q7 q8 q9
                  by_cases hat' : at' < s.length
                  · have hdrop : s.drop at' = ix s (at' : Int) :: s.drop (at' + 1) := by
                      rw [List.drop_eq_getElem_cons hat']
                      simp [ix, List.getD_eq_getElem?_getD, List.getElem?_eq_getElem hat']
                    rw [hdrop, Puny.deltaR] at q9
                    repeat' (first | simp (disch := first | omega | assumption | decide) only [go_sem, hm, hz, ht, hr_, g0, g6, g9, g11, g12, g8, g10, g13, g14, hlen] | refine ifP_in (fun _ => ?_) (fun _ => ?_))
                    refine rF_use (val_r _) ?_
                    rintro _ K ⟨rfl, rfl⟩
                    generalize ix s (at' : Int) = c at *
                    have d1 := dgt_bnd c
                    generalize Puny.dgt c = d at *
                    have r1 : 0 ≤ (2147483647 - i') / w := Int.ediv_nonneg (by omega) (by omega)
                    have r2 : (2147483647 - i') / w ≤ 2147483647 - i' := Int.ediv_le_self _ (by omega)
                    have hdv : (if d = 36 then (-1 : Int) else d) < 0 ↔ d = 36 := by split <;> omega
                    by_cases hd36 : d = 36
                    · rw [if_pos (.inl hd36)] at q9
                      rw [if_pos hd36]
                      repeat' (first | simp (disch := first | omega | assumption | decide) only [go_sem, hm, hz, ht, hr_, g0, g6, g9, g11, g12, g8, g10, g13, g14, hlen] | refine ifP_in (fun _ => ?_) (fun _ => ?_))
                      rw [hbad (hDn q9.symm)]
                      exact ⟨rfl, hp⟩
                    · rw [if_neg hd36]
                      repeat' (first | simp (disch := first | omega | assumption | decide) only [go_sem, hm, hz, ht, hr_, g0, g6, g9, g11, g12, g8, g10, g13, g14, hlen] | refine ifP_in (fun _ => ?_) (fun _ => ?_))
                      · rw [if_pos (by omega)] at q9
                        rw [hbad (hDn q9.symm)]
                        exact ⟨rfl, hp⟩
                      · rename_i hgt
                        rw [if_neg (by omega)] at q9
                        refine rF_use (thr_r k' bias (by omega) (by omega)) ?_
                        rintro _ K ⟨rfl, rfl⟩
                        have t1 := Puny.thr_bnd k' bias
                        generalize Puny.thr k' bias = th at *
                        have r3 : d * w ≤ 2147483647 - i' := Int.le_trans (Int.mul_le_mul_of_nonneg_right (by omega : d ≤ (2147483647 - i') / w) (by omega)) (Int.ediv_mul_le _ (by omega))
                        have r4 : 0 ≤ d * w := Int.mul_nonneg (by omega) (by omega)
                        have r5 : 0 ≤ 2147483647 / (36 - th) := Int.ediv_nonneg (by omega) (by omega)
                        have r6 : 2147483647 / (36 - th) ≤ 2147483647 := Int.ediv_le_self _ (by omega)
                        by_cases hdt : d < th
                        · rw [if_pos hdt] at q9
                          obtain ⟨y1, y2, y3, y4, y5, y6⟩ := hDs _ _ q9.symm
                          have hx0 : i' + d * w < 1000000000000 := by omega
                          repeat' (first | simp (disch := first | omega | assumption | decide) only [go_sem, hm, hz, ht, hr_, g0, g6, g9, g11, g12, g8, g10, g13, g14, hlen] | refine ifP_in (fun _ => ?_) (fun _ => ?_))
                          generalize i' + d * w = x at *
                          have hab := Puny.adapt_bnd (x - i) (l.length + 1) (decide (i = 0)) (by omega) (by omega) (by omega)
                          have hx1 : 0 ≤ x / ((l.length : Int) + 1) := Int.ediv_nonneg (by omega) (by omega)
                          have hx2 : x / ((l.length : Int) + 1) ≤ x := Int.ediv_le_self _ (by omega)
                          have hx3 : 0 ≤ x % ((l.length : Int) + 1) := Int.emod_nonneg _ (by omega)
                          have hx4 : x % ((l.length : Int) + 1) < l.length + 1 := Int.emod_lt_of_pos _ (by omega)
                          refine rF_use (adapt_r (x - i) (l.length + 1) (decide (i = 0)) (by omega) (by omega)) ?_
                          rintro _ K ⟨rfl, rfl⟩
                          generalize Puny.adapt (x - i) (l.length + 1) (decide (i = 0)) = bias' at *
                          repeat' (first | simp (disch := first | omega | assumption | decide) only [go_sem, hm, hz, ht, hr_, g0, g6, g9, g11, g12, g8, g10, g13, g14, hlen] | refine ifP_in (fun _ => ?_) (fun _ => ?_))
                          rotate_left
                          · rw [hbad (y5 (.inr (.inl (by omega))))]
                            exact ⟨rfl, hp⟩
                          · refine rF_use (scalar_r _) ?_
                            rintro _ K ⟨rfl, rfl⟩
                            cases hsc : Puny.scalar (n + x / ((l.length : Int) + 1)) with
                            | false =>
                              repeat' (first | simp (disch := first | omega | assumption | decide) only [go_sem, hm, hz, ht, hr_, g0, g6, g9, g11, g12, g8, g10, g13, g14, hlen] | refine ifP_in (fun _ => ?_) (fun _ => ?_))
                              rw [hbad (y5 (.inr (.inr hsc)))]
                              exact ⟨rfl, hp⟩
                            | true =>
                              have hsb := Puny.scalar_bnd hsc
                              by_cases hlb : 256 ≤ l.length
                              · have hnone : Puny.dec s = none := by
                                  by_cases hb2 : 256 < l.length
                                  · exact y5 (.inl hb2)
                                  · rw [← y6 (by omega) (by omega) hsc]
                                    obtain ⟨k, rfl⟩ : ∃ k'', k = k'' + 1 := ⟨k - 1, by omega⟩
                                    rw [Puny.decL, if_pos (by simp only [List.length_append, List.length_take, List.length_cons, List.length_drop]; omega)]
                                repeat' (first | simp (disch := first | omega | assumption | decide) only [go_sem, hm, hz, ht, hr_, g0, g6, g9, g11, g12, g8, g10, g13, g14, hlen] | refine ifP_in (fun _ => ?_) (fun _ => ?_))
                                rw [hbad hnone]
                                exact ⟨rfl, hp⟩
                              · have y6 := y6 (by omega) (by omega) hsc
                                generalize hq : x % ((l.length : Int) + 1) = q at *
                                obtain ⟨m, rfl⟩ : ∃ m : Nat, q = m := ⟨q.toNat, by omega⟩
                                rw [Int.toNat_natCast] at y6
                                clear y5 q9 hDs hDn j10
                                have fin : ∀ a' K', RowOf iA H.length K' a' (l.take m ++ (n + x / ((l.length : Int) + 1)) :: l.drop m) → H <+: K' → True := fun _ _ _ _ => trivial
                                rcases hr with ⟨rfl, rfl⟩ | ⟨j, hj, rfl, hH, hx⟩
                                · obtain rfl : m = 0 := by simp at hx4; omega
                                  repeat' (first | simp (disch := first | omega | assumption | decide) only [go_sem, hm, hz, ht, hr_, g0, g6, g9, g11, g12, g8, g10, g13, g14, hlen] | refine ifP_in (fun _ => ?_) (fun _ => ?_))
                                  refine bind_append (f := iA) (ys := [n + x / (((0 : Nat) : Int) + 1)]) (RowOf.nil) hp ?_ (by simp) ?_ ?_
                                  · rfl
                                  · simp
                                  intro a' K hr' hp'
                                  repeat' (first | simp (disch := first | omega | assumption | decide) only [go_sem, hm, hz, ht, hr_, g0, g6, g9, g11, g12, g8, g10, g13, g14, hlen] | refine ifP_in (fun _ => ?_) (fun _ => ?_))
                                  refine ⟨(k, at' + 1, _, _, _, bias'), ⟨hp', (by first | omega | (simp only; omega) | (simp; done) | (simp; omega)), (by first | omega | (simp only; omega) | (simp; done) | (simp; omega)), rfl, rfl, rfl, hr', (by first | omega | (simp only; omega) | (simp; done) | (simp; omega)), (by first | omega | (simp only; omega) | (simp; done) | (simp; omega)), (by first | omega | (simp only; omega) | (simp; done) | (simp; omega)), (by first | omega | (simp only; omega) | (simp; done) | (simp; omega)), hab.1, hab.2, (by first | omega | (simp only; omega) | (simp; done) | (simp; omega)), (by first | omega | (simp only; omega) | (simp; done) | (simp; omega)), y6⟩, (by first | omega | (simp only; omega) | (simp; done) | (simp; omega))⟩
                                · by_cases hml : m < l.length
                                  · have hdl : (l.drop m).length ≤ 4000 := by simp; omega
                                    repeat' (first | simp (disch := first | omega | assumption | decide) only [go_sem, hm, hz, ht, hr_, g0, g6, g9, g11, g12, g8, g10, g13, g14, hlen] | refine ifP_in (fun _ => ?_) (fun _ => ?_))
                                    rw [if_pos (.inl hml), view_mr (f := iA) hH (by omega) (by omega), List.take_of_length_le (by simp)]
                                    repeat' (first | simp (disch := first | omega | assumption | decide) only [go_sem, hm, hz, ht, hr_, g0, g6, g9, g11, g12, g8, g10, g13, g14, hlen] | refine ifP_in (fun _ => ?_) (fun _ => ?_))
                                    refine bind_cut (f := iA) (ys := (n + x / ((l.length : Int) + 1)) :: l.drop m) hp hj hH hx (by omega) ?_ (by simp) ?_ ?_
                                    · rfl
                                    · simp; omega
                                    intro a' K hr' hp'
                                    repeat' (first | simp (disch := first | omega | assumption | decide) only [go_sem, hm, hz, ht, hr_, g0, g6, g9, g11, g12, g8, g10, g13, g14, hlen] | refine ifP_in (fun _ => ?_) (fun _ => ?_))
                                    refine ⟨(k, at' + 1, _, _, _, bias'), ⟨hp', (by first | omega | (simp only; omega) | (simp; done) | (simp; omega)), (by first | omega | (simp only; omega) | (simp; done) | (simp; omega)), rfl, rfl, rfl, hr', (by first | omega | (simp only; omega) | (simp; done) | (simp; omega)), (by first | omega | (simp only; omega) | (simp; done) | (simp; omega)), (by first | omega | (simp only; omega) | (simp; done) | (simp; omega)), (by first | omega | (simp only; omega) | (simp; done) | (simp; omega)), hab.1, hab.2, (by simp only [List.length_append, List.length_take, List.length_cons, List.length_drop, List.length_nil]; omega), (by first | omega | (simp only; omega) | (simp; done) | (simp; omega)), y6⟩, (by first | omega | (simp only; omega) | (simp; done) | (simp; omega))⟩
                                  · obtain rfl : m = l.length := by omega
                                    repeat' (first | simp (disch := first | omega | assumption | decide) only [go_sem, hm, hz, ht, hr_, g0, g6, g9, g11, g12, g8, g10, g13, g14, hlen] | refine ifP_in (fun _ => ?_) (fun _ => ?_))
                                    rw [if_neg (by omega)]
                                    repeat' (first | simp (disch := first | omega | assumption | decide) only [go_sem, hm, hz, ht, hr_, g0, g6, g9, g11, g12, g8, g10, g13, g14, hlen] | refine ifP_in (fun _ => ?_) (fun _ => ?_))
                                    refine bind_cut (f := iA) (ys := [n + x / ((l.length : Int) + 1)]) hp hj hH hx (by omega) ?_ (by simp) ?_ ?_
                                    · rfl
                                    · simp; omega
                                    intro a' K hr' hp'
                                    repeat' (first | simp (disch := first | omega | assumption | decide) only [go_sem, hm, hz, ht, hr_, g0, g6, g9, g11, g12, g8, g10, g13, g14, hlen] | refine ifP_in (fun _ => ?_) (fun _ => ?_))
                                    refine ⟨(k, at' + 1, _, _, _, bias'), ⟨hp', (by first | omega | (simp only; omega) | (simp; done) | (simp; omega)), (by first | omega | (simp only; omega) | (simp; done) | (simp; omega)), rfl, rfl, rfl, hr', (by first | omega | (simp only; omega) | (simp; done) | (simp; omega)), (by first | omega | (simp only; omega) | (simp; done) | (simp; omega)), (by first | omega | (simp only; omega) | (simp; done) | (simp; omega)), (by first | omega | (simp only; omega) | (simp; done) | (simp; omega)), hab.1, hab.2, (by simp only [List.length_append, List.length_take, List.length_cons, List.length_drop, List.length_nil]; omega), (by first | omega | (simp only; omega) | (simp; done) | (simp; omega)), (by rw [List.drop_length] at y6; exact y6)⟩, (by first | omega | (simp only; omega) | (simp; done) | (simp; omega))⟩
                        · rw [if_neg hdt] at q9
                          repeat' (first | simp (disch := first | omega | assumption | decide) only [go_sem, hm, hz, ht, hr_, g0, g6, g9, g11, g12, g8, g10, g13, g14, hlen] | refine ifP_in (fun _ => ?_) (fun _ => ?_))
                          · rw [if_pos (by omega)] at q9
                            rw [hbad (hDn q9.symm)]
                            exact ⟨rfl, hp⟩
                          · rw [if_neg (by omega)] at q9
                            have r7 : w * (36 - th) ≤ 2147483647 := Int.le_trans (Int.mul_le_mul_of_nonneg_right (by omega : w ≤ 2147483647 / (36 - th)) (by omega)) (Int.ediv_mul_le _ (by omega))
                            have r8 : 1 * 1 ≤ w * (36 - th) := Int.mul_le_mul (by omega) (by omega) (by omega) (by omega)
                            repeat' (first | simp (disch := first | omega | assumption | decide) only [go_sem, hm, hz, ht, hr_, g0, g6, g9, g11, g12, g8, g10, g13, g14, hlen] | refine ifP_in (fun _ => ?_) (fun _ => ?_))
                            refine ⟨(at' + 1, i' + d * w, w * (36 - th), k' + 36), ⟨rfl, rfl, rfl, rfl, (by first | omega | (simp only; omega) | (simp; done) | (simp; omega)), (by first | omega | (simp only; omega) | (simp; done) | (simp; omega)), (by first | omega | (simp only; omega) | (simp; done) | (simp; omega)), (by first | omega | (simp only; omega) | (simp; done) | (simp; omega)), (by first | omega | (simp only; omega) | (simp; done) | (simp; omega)), (by first | omega | (simp only; omega) | (simp; done) | (simp; omega)), (by first | omega | (simp only; omega) | (simp; done) | (simp; omega)), (by first | omega | (simp only; omega) | (simp; done) | (simp; omega)), ?_⟩, (by first | omega | (simp only; omega) | (simp; done) | (simp; omega))⟩
                            exact q9
                  · have hse : s.drop at' = [] := List.drop_of_length_le (by omega)
                    rw [hse, Puny.deltaR] at q9
                    repeat' (first | simp (disch := first | omega | assumption | decide) only [go_sem, hm, hz, ht, hr_, g0, g6, g9, g11, g12, g8, g10, g13, g14, hlen] | refine ifP_in (fun _ => ?_) (fun _ => ?_))
                    rw [hbad (hDn q9.symm)]
                    exact ⟨rfl, hp⟩
              · have hse : s.drop at_ = [] := List.drop_of_length_le (by omega)
                rw [hse, Puny.decL] at j10
                repeat' (first | simp (disch := first | omega | assumption | decide) only [go_sem, hm, hz, ht, hr_, g0, g6, g8, g9, g10, g11, hlen] | refine ifP_in (fun _ => ?_) (fun _ => ?_))
                · rw [if_pos (by omega)] at j10
                  rw [hbad j10.symm]
                  exact ⟨rfl, hp⟩
                · rw [if_neg (by omega), if_pos (by simp)] at j10
                  refine bind_freeze (f := iA) hr hp ?_
                  intro K hp
                  repeat' (first | simp (disch := first | omega | assumption | decide) only [go_sem, hm, hz, ht, hr_, g0, g6, g8, g9, g10, g11, hlen] | refine ifP_in (fun _ => ?_) (fun _ => ?_))
                  rw [hgood l j10.symm]
                  exact ⟨rfl, hp⟩
end Pu
end Go.Proofs
/- The chapter's examples, and signs below 80 alone. -/
set_option linter.unusedVariables false
set_option linter.unusedSimpArgs false
namespace Go.Puny

theorem numL_stop {q k bias : Int} (h : q < thr k bias) : numL q k bias = [ltr q] := by rw [numL, dif_pos h]
theorem numL_go {q k bias : Int} (h : ¬ q < thr k bias) : numL q k bias = ltr (thr k bias + (q - thr k bias) % (36 - thr k bias)) :: numL ((q - thr k bias) / (36 - thr k bias)) (k + 36) bias := by rw [numL, dif_neg h]
theorem adaptL_stop {d k : Int} (h : ¬ 455 < d) : adaptL d k = (d, k) := by rw [adaptL, dif_neg h]
theorem adaptL_go {d k : Int} (h : 455 < d) : adaptL d k = adaptL (d / 35) (k + 36) := by rw [adaptL, dif_pos h]

theorem numL_ex : numL 745 36 72 = [107, 118, 97] := by
  rw [numL_go (by decide), numL_go (by decide), numL_stop (by decide)]
  decide
theorem adapt_ex : adapt 745 6 true = 0 := by
  unfold adapt
  simp only
  rw [adaptL_stop (by decide)]
  decide
theorem encode_ex : encode [98, 252, 99, 104, 101, 114] = ([98, 99, 104, 101, 114, 45, 107, 118, 97], 0) := by
  have h1 : plain [98, 252, 99, 104, 101, 114] = [98, 99, 104, 101, 114] := by decide
  have h2 : [98, 252, 99, 104, 101, 114].all scalar = true := by decide
  have h3 : nxt [98, 252, 99, 104, 101, 114] 128 = 252 := by decide
  rw [encode, if_neg (by decide), enc, if_pos h2, h1, show dash [98, 99, 104, 101, 114] = [98, 99, 104, 101, 114, 45] from by decide]
  have h4 : eRound [98, 252, 99, 104, 101, 114] 5 128 ([98, 99, 104, 101, 114, 45], 0, 72, 5) = ([98, 99, 104, 101, 114, 45, 107, 118, 97], 4, 0, 6) := by
    rw [eRound, h3]
    simp only [List.foldl_cons, List.foldl_nil]
    rw [show eStep 252 5 ([98, 99, 104, 101, 114, 45], 0 + (252 - 128) * (5 + 1), 72, 5) 98 = ([98, 99, 104, 101, 114, 45], 745, 72, 5) from by decide]
    rw [show eStep 252 5 ([98, 99, 104, 101, 114, 45], 745, 72, 5) 252 = ([98, 99, 104, 101, 114, 45, 107, 118, 97], 0, 0, 6) from by
      rw [eStep, if_neg (by decide), if_pos (by decide)]
      simp only
      rw [numL_ex, show decide True = true from rfl, show (5 : Int) + 1 = 6 from rfl, adapt_ex]
      rfl]
    decide
  rw [show ((([98, 99, 104, 101, 114] : List UInt8).length : Nat) : Int) = 5 from rfl, show ([98, 252, 99, 104, 101, 114] : List Int).length = 6 from rfl, eLoop, if_pos (by decide), h4, h3]
  simp only
  rw [eLoop, if_neg (by decide)]

theorem decode_ex : decode [116, 100, 97] = ([252], 0) := by
  have h1 : deltaR [116, 100, 97] 0 0 1 36 72 = some (124, 3) := by decide
  have h2 : [116, 100, 97].all (fun c : UInt8 => decide (c.toNat < 128)) = true := by decide
  have h3 : cutAt [116, 100, 97] = -1 := by decide
  rw [decode, if_neg (by decide), dec, if_pos h2, h3, if_neg (by decide)]
  simp only [List.length_cons, List.length_nil]
  rw [decL, if_neg (by decide), if_neg (by decide)]
  simp only [show ([116, 100, 97] : List UInt8).take (-1 : Int).toNat = [] from rfl, List.map_nil]
  rw [h1]
  simp only
  rw [if_neg (by decide), if_neg (by decide), decL, if_neg (by decide), if_pos (by decide)]
  rfl

theorem decode_dash : decode [45] = ([], 4) := by
  have h1 : deltaR [45] 0 0 1 36 72 = none := by decide
  have h2 : [45].all (fun c : UInt8 => decide (c.toNat < 128)) = true := by decide
  have h3 : cutAt [45] = 0 := by decide
  rw [decode, if_neg (by decide), dec, if_pos h2, h3, if_neg (by decide)]
  simp only [List.length_cons, List.length_nil]
  rw [decL, if_neg (by decide), if_neg (by decide)]
  simp only [show ([45] : List UInt8).take (0 : Int).toNat = [] from rfl, List.map_nil]
  rw [h1]
end Go.Puny
/- Walks through lists held against one another, and the chapter's examples. -/
set_option linter.unusedVariables false
set_option linter.unusedSimpArgs false
namespace Go.Proofs
open Go.Lv
namespace Pu
variable {H : Heap}

theorem eq_of_take {α : Type} [Inhabited α] {a b : List α} (hl : a.length = b.length) {i : Nat} (h : a.take i = b.take i) (hi : i < a.length) (hx : ix a (i : Int) = ix b (i : Int)) : a.take (i + 1) = b.take (i + 1) := by
  rw [List.take_add_one, List.take_add_one, h, List.getElem?_eq_getElem hi, List.getElem?_eq_getElem (by omega)]
  have e1 : ix a (i : Int) = a[i] := by simp [ix, List.getD_eq_getElem?_getD, List.getElem?_eq_getElem hi]
  have e2 : ix b (i : Int) = b[i] := by simp [ix, List.getD_eq_getElem?_getD, List.getElem?_eq_getElem (show i < b.length by omega)]
  rw [← e1, ← e2, hx]
theorem ints_w (a b : List Int) (ha : a.length ≤ 140737488355328) (hb : b.length ≤ 140737488355328) : WF Tryd.prog cfg 11 [.sl (a.map iA), .sl (b.map iA)] H (fun r H' => r = .b (decide (a = b)) ∧ H' = H) := by
  have hm : ∀ d, cfg.muF 11 d = (false) := fun _ => rfl
  have hz : ∀ d, cfg.fzF 11 d = (false) := fun _ => rfl
  have ht : ∀ d, cfg.tkF 11 d = (false) := fun _ => rfl
  have hr_ : ∀ g, cfg.raw g = (g == 60 || g == 63) := fun _ => rfl
  refine rF_fn rfl rfl Tryd.func11 rfl ?_
  repeat' (first | simp (disch := first | omega | assumption | decide) only [go_sem, hm, hz, ht, hr_] | refine ifP_in (fun _ => ?_) (fun _ => ?_))
  · rename_i h
    rw [decide_eq_false (by intro he; rw [he] at h; exact h rfl)]
  · rename_i h
    have hl : a.length = b.length := by omega
    refine rL_loop (σ := Nat) (fun i e H' => H' = H ∧ e 0 = .sl (a.map iA) ∧ e 1 = .sl (b.map iA) ∧ e 5 = .i i ∧ i ≤ a.length ∧ a.take i = b.take i) (fun i => a.length - i) 0 ?_ ?_
    · exact ⟨rfl, (by simp (disch := first | omega | assumption | decide) only [go_sem, *] <;> rfl), (by simp (disch := first | omega | assumption | decide) only [go_sem, *] <;> rfl), (by simp (disch := first | omega | assumption | decide) only [go_sem, *] <;> rfl), by omega, rfl⟩
    · rintro i e H ⟨rfl, g0, g1, g5, gi, ge⟩
      by_cases hil : i < a.length
      · repeat' (first | simp (disch := first | omega | assumption | decide) only [go_sem, hm, hz, ht, hr_, g0, g1, g5] | refine ifP_in (fun _ => ?_) (fun _ => ?_))
        · rename_i hne
          rw [decide_eq_false (by intro he; rw [he] at hne; exact hne rfl)]
        · rename_i hne
          exact ⟨i + 1, ⟨rfl, by omega, eq_of_take hl ge hil (by omega)⟩, by omega⟩
      · obtain rfl : i = a.length := by omega
        rw [List.take_length, hl, List.take_length] at ge
        repeat' (first | simp (disch := first | omega | assumption | decide) only [go_sem, hm, hz, ht, hr_, g0, g1, g5] | refine ifP_in (fun _ => ?_) (fun _ => ?_))
        rw [decide_eq_true ge]

theorem copyInts_w (a : List Int) (ha : a.length ≤ 1000000) : WF Tryd.prog cfg 6 [.sl (a.map iA)] H (fun r H' => r = .sl (a.map iA) ∧ H' = H) := by
  have hm : ∀ d, cfg.muF 6 d = (false) := fun _ => rfl
  have hz : ∀ d, cfg.fzF 6 d = (false) := fun _ => rfl
  have ht : ∀ d, cfg.tkF 6 d = (false) := fun _ => rfl
  have hr_ : ∀ g, cfg.raw g = (g == 60 || g == 63) := fun _ => rfl
  refine rF_fn rfl rfl Tryd.func6 rfl ?_
  repeat' (first | simp (disch := first | omega | assumption | decide) only [go_sem, hm, hz, ht, hr_] | refine ifP_in (fun _ => ?_) (fun _ => ?_))

end Pu
end Go.Proofs
/- What was written comes back. -/
set_option linter.unusedVariables false
set_option linter.unusedSimpArgs false
namespace Go.Puny

theorem dgt_ltr {d : Int} (h0 : 0 ≤ d) (h1 : d < 36) : dgt (ltr d) = d := by
  unfold ltr
  split
  · rename_i h
    have hn : (UInt8.ofNat (97 + d).toNat).toNat = (97 + d).toNat := by simp [UInt8.toNat_ofNat']; omega
    unfold dgt
    rw [hn, if_pos (by omega)]; omega
  · rename_i h
    have hn : (UInt8.ofNat (22 + d).toNat).toNat = (22 + d).toNat := by simp [UInt8.toNat_ofNat']; omega
    unfold dgt
    rw [hn, if_neg (by omega), if_neg (by omega), if_pos (by omega)]; omega
theorem ltr_ok {d : Int} (h0 : 0 ≤ d) (h1 : d < 36) : (ltr d).toNat < 128 ∧ (97 ≤ (ltr d).toNat ∧ (ltr d).toNat ≤ 122 ∨ 48 ≤ (ltr d).toNat ∧ (ltr d).toNat ≤ 57) := by
  unfold ltr
  split
  · have hn : (UInt8.ofNat (97 + d).toNat).toNat = (97 + d).toNat := by simp [UInt8.toNat_ofNat']; omega
    rw [hn]; omega
  · have hn : (UInt8.ofNat (22 + d).toNat).toNat = (22 + d).toNat := by simp [UInt8.toNat_ofNat']; omega
    rw [hn]; omega
def lowOrDigit (c : UInt8) : Prop := 97 ≤ c.toNat ∧ c.toNat ≤ 122 ∨ 48 ≤ c.toNat ∧ c.toNat ≤ 57
theorem numL_ok (bias : Int) : ∀ (m : Nat) (q k : Int), 0 ≤ q → q < m → ∀ c ∈ numL q k bias, lowOrDigit c := by
  intro m
  induction m with
  | zero => intro q k h0 h; omega
  | succ m ih =>
    intro q k h0 h c hc
    have h1 := thr_bnd k bias
    rw [numL] at hc
    split at hc
    · rename_i hq
      simp only [List.mem_singleton] at hc
      subst hc
      exact (ltr_ok h0 (by omega)).2
    · rename_i hq
      have m1 := Int.emod_nonneg (q - thr k bias) (by omega : 36 - thr k bias ≠ 0)
      have m2 := Int.emod_lt_of_pos (q - thr k bias) (by omega : 0 < 36 - thr k bias)
      have h2 := div_lt_self' h1.1 h1.2 (show thr k bias ≤ q by omega)
      rcases List.mem_cons.1 hc with rfl | hc
      · exact (ltr_ok (by omega) (by omega)).2
      · exact ih _ _ h2.1 (by omega) c hc

theorem pow35 {i j : Nat} (h : i ≤ j) : (35 : Int) ^ i ≤ 35 ^ j := by
  have := Nat.pow_le_pow_right (n := 35) (by omega) h
  exact_mod_cast this
/-- A number's letters are read as the number. -/
theorem delta_num (bias : Int) (B : Int) (hB : B ≤ 286400000) : ∀ (m : Nat) (q k i w a : Int) (rest : List UInt8), 0 ≤ q → q < m → 0 ≤ i → 1 ≤ w → q * w ≤ B → i + q * w ≤ 2147483647 → (thr k bias ≤ 4 → ∃ j : Nat, w = 35 ^ j) →
    deltaR (numL q k bias ++ rest) a i w k bias = some (i + q * w, a + (numL q k bias).length) := by
  intro m
  induction m with
  | zero => intro q k i w a rest h0 h; omega
  | succ m ih =>
    intro q k i w a rest h0 hm hi hw hq hiq h4
    have t1 := thr_bnd k bias
    have ht4 : thr k bias ≤ 4 ∨ 5 ≤ thr k bias := by omega
    have hnext : thr (k + 36) bias ≤ 4 → thr k bias = 1 := by unfold thr; omega
    rw [numL]
    generalize ht : thr k bias = t at *
    by_cases hqt : q < t
    · rw [dif_pos hqt]
      simp only [List.cons_append, List.nil_append, deltaR, List.length_singleton]
      rw [dgt_ltr h0 (by omega), ht]
      have : q ≤ (2147483647 - i) / w := Int.le_ediv_of_mul_le (by omega) (by omega)
      rw [if_neg (by omega), if_pos hqt]
      rfl
    · rw [dif_neg hqt]
      have m1 := Int.emod_nonneg (q - t) (by omega : 36 - t ≠ 0)
      have m2 := Int.emod_lt_of_pos (q - t) (by omega : 0 < 36 - t)
      have m3 := Int.emod_add_mul_ediv (q - t) (36 - t)
      have h2 := div_lt_self' t1.1 t1.2 (show t ≤ q by omega)
      generalize hr : (q - t) % (36 - t) = r at *
      generalize hq' : (q - t) / (36 - t) = q' at *
      simp only [List.cons_append, deltaR, List.length_cons]
      rw [dgt_ltr (by omega) (by omega), ht]
      have hdq : t + r ≤ q := by
        have : 0 ≤ (36 - t) * q' := Int.mul_nonneg (by omega) (by omega)
        omega
      have hdw : (t + r) * w ≤ q * w := Int.mul_le_mul_of_nonneg_right hdq (by omega)
      have hdw0 : 0 ≤ (t + r) * w := Int.mul_nonneg (by omega) (by omega)
      have h5 : t + r ≤ (2147483647 - i) / w := Int.le_ediv_of_mul_le (by omega) (by omega)
      rw [if_neg (by omega), if_neg (by omega)]
      have htw : t * w ≤ q * w := Int.mul_le_mul_of_nonneg_right (by omega) (by omega)
      -- the next weight is not too great
      have hwt : w * (36 - t) ≤ 2147483647 := by
        rcases ht4 with h | h
        · obtain ⟨j, rfl⟩ := h4 h
          have hj : j ≤ 5 := by
            by_cases hj : j ≤ 5
            · exact hj
            · exfalso
              have : (35 : Int) ^ 6 ≤ 35 ^ j := pow35 (by omega)
              have h6 : (35 : Int) ^ 6 = 1838265625 := by decide
              have : 1 * (35 : Int) ^ j ≤ t * 35 ^ j := Int.mul_le_mul_of_nonneg_right (by omega) (by omega)
              omega
          have h7 : (35 : Int) ^ j ≤ 35 ^ 5 := pow35 hj
          have h8 : (35 : Int) ^ 5 = 52521875 := by decide
          have : (35 : Int) ^ j * (36 - t) ≤ 52521875 * 35 := Int.mul_le_mul (by omega) (by omega) (by omega) (by omega)
          omega
        · have : 5 * w ≤ t * w := Int.mul_le_mul_of_nonneg_right h (by omega)
          have : w * (36 - t) ≤ w * 31 := Int.mul_le_mul_of_nonneg_left (by omega) (by omega)
          omega
      have h9 : w ≤ 2147483647 / (36 - t) := Int.le_ediv_of_mul_le (by omega) hwt
      rw [if_neg (by omega)]
      have hsum : (t + r) * w + q' * (w * (36 - t)) = q * w := by
        rw [show q' * (w * (36 - t)) = ((36 - t) * q') * w by rw [Int.mul_comm w, ← Int.mul_assoc, Int.mul_comm q'], ← Int.add_mul]
        congr 1; omega
      have hw1 : 1 * 1 ≤ w * (36 - t) := Int.mul_le_mul hw (by omega) (by omega) (by omega)
      have := ih q' (k + 36) (i + (t + r) * w) (w * (36 - t)) (a + 1) rest h2.1 (by omega) (by omega) (by omega) (by omega) (by omega) (fun h => by
        have ht1 := hnext h
        obtain ⟨j, hj⟩ := h4 (by omega)
        exact ⟨j + 1, by rw [hj, ht1, Int.pow_succ]; rfl⟩)
      rw [this]
      congr 2
      · omega
      · push_cast; omega

def le_ (m : Int) : Int → Bool := fun c => decide (c ≤ m)
def lt_ (m : Int) : Int → Bool := fun c => decide (c < m)

theorem adapt_bnd' {delta n : Int} {b : Bool} (h0 : 0 ≤ delta) (h1 : delta < 1000000000000) (hn : 0 < n) : 0 ≤ adapt delta n b ∧ adapt delta n b ≤ 400 := adapt_bnd delta n b h0 h1 hn

/-- A pass, and how it is read. -/
theorem pass_sim (m basic : Int) (hm0 : 0 ≤ m) (hsc : scalar m = true) : ∀ (l2 l1 : List Int) (b : List UInt8) (delta bias done nd i : Int),
    (l1 ++ l2).length ≤ 256 → done = (l1.filter (le_ m) ++ l2.filter (lt_ m)).length → 0 ≤ delta → delta + l2.length ≤ 286400000 → 0 ≤ bias → bias ≤ 400 → 0 ≤ i → i ≤ done → basic ≤ done → (i = 0 ↔ done = basic) →
    nd * (done + 1) + i + delta = m * (done + 1) + (l1.filter (le_ m)).length →
    let r := l2.foldl (eStep m basic) (b, delta, bias, done)
    ∃ (T : List UInt8) (cnt : Nat) (nd' i' : Int), r.1 = b ++ T ∧ cnt ≤ T.length ∧ (∀ c ∈ T, lowOrDigit c) ∧
      (∀ (K : Nat) (rest : List UInt8), decL (K + cnt) (T ++ rest) (l1.filter (le_ m) ++ l2.filter (lt_ m)) nd i bias = decL K rest ((l1 ++ l2).filter (le_ m)) nd' i' r.2.2.1) ∧
      r.2.2.2 = ((l1 ++ l2).filter (le_ m)).length ∧ 0 ≤ i' ∧ i' ≤ r.2.2.2 ∧ basic ≤ r.2.2.2 ∧ (i' = 0 ↔ r.2.2.2 = basic) ∧ nd' * (r.2.2.2 + 1) + i' + r.2.1 = m * (r.2.2.2 + 1) + r.2.2.2 := by
  intro l2
  induction l2 with
  | nil =>
    intro l1 b delta bias done nd i hl hd h0 hB hb0 hb1 hi0 hi1 hba hib heq
    simp only [List.filter_nil, List.append_nil, List.foldl_nil] at hd ⊢
    exact ⟨[], 0, nd, i, by simp, by simp, by simp, fun K rest => rfl, hd, hi0, hi1, hba, hib, by rw [heq, ← hd]⟩
  | cons c l2 ih =>
    intro l1 b delta bias done nd i hl hd h0 hB hb0 hb1 hi0 hi1 hba hib heq
    simp only [List.foldl_cons]
    simp only [List.length_cons] at hB
    have hl' : ((l1 ++ [c]) ++ l2).length ≤ 256 := by simpa using hl
    have happ : (l1 ++ [c]) ++ l2 = l1 ++ c :: l2 := by simp
    by_cases hc : c < m
    · have e1 : (l1 ++ [c]).filter (le_ m) = l1.filter (le_ m) ++ [c] := by
        rw [List.filter_append]; simp [le_, show c ≤ m by omega]
      have e2 : (c :: l2).filter (lt_ m) = c :: l2.filter (lt_ m) := by simp [lt_, hc]
      have hstep : eStep m basic (b, delta, bias, done) c = (b, delta + 1, bias, done) := by simp [eStep, hc]
      rw [hstep]
      have := ih (l1 ++ [c]) b (delta + 1) bias done nd i hl' (by rw [hd, e1, e2]; simp) (by omega) (by omega) hb0 hb1 hi0 hi1 hba hib (by rw [e1, List.length_append]; simp only [List.length_singleton]; push_cast; omega)
      rw [e1, happ] at this
      rw [e2]
      simpa using this
    · by_cases he : c = m
      · subst he
        have e1 : (l1 ++ [c]).filter (le_ c) = l1.filter (le_ c) ++ [c] := by
          rw [List.filter_append]; simp [le_]
        have e2 : (c :: l2).filter (lt_ c) = l2.filter (lt_ c) := by simp [lt_]
        have hstep : eStep c basic (b, delta, bias, done) c = (b ++ numL delta 36 bias, 0, adapt delta (done + 1) (decide (done = basic)), done + 1) := by simp [eStep]
        rw [hstep]
        rw [e2] at hd ⊢
        have hlen2 : (l2.filter (lt_ c)).length ≤ l2.length := List.length_filter_le _ _
        have hlen1 : (l1.filter (le_ c)).length ≤ l1.length := List.length_filter_le _ _
        rw [List.length_append] at hd
        simp only [List.length_append, List.length_cons] at hl
        have hab := adapt_bnd delta (done + 1) (decide (done = basic)) h0 (by omega) (by omega)
        have hnl := numL_len 9 delta 36 bias h0 (by omega)
        have hnok := numL_ok bias (delta.toNat + 1) delta 36 h0 (by omega)
        have := ih (l1 ++ [c]) (b ++ numL delta 36 bias) 0 (adapt delta (done + 1) (decide (done = basic))) (done + 1) c ((l1.filter (le_ c)).length + 1) hl' (by rw [e1]; simp only [List.length_append, List.length_singleton]; push_cast; omega) (by omega) (by omega) hab.1 hab.2 (by omega) (by omega) (by omega)
          ⟨fun h => by omega, fun h => by omega⟩ (by rw [e1, List.length_append]; simp only [List.length_singleton]; push_cast; omega)
        simp only at this
        obtain ⟨T, cnt, nd', i', t1, t2, t3, t4, t5, t6, t7, t8, t9, t10⟩ := this
        rw [happ] at t4 t5
        refine ⟨numL delta 36 bias ++ T, cnt + 1, nd', i', by rw [t1, List.append_assoc], by rw [List.length_append]; omega, ?_, ?_, t5, t6, t7, t8, t9, t10⟩
        · intro d hd
          rcases List.mem_append.1 hd with h | h
          · exact hnok d h
          · exact t3 d h
        · intro K rest
          rw [← t4 K rest, ← Nat.add_assoc, decL]
          have hL : (l1.filter (le_ c) ++ l2.filter (lt_ c)).length = (l1.filter (le_ c)).length + (l2.filter (lt_ c)).length := List.length_append
          rw [if_neg (by rw [hL]; omega), if_neg (by simp only [List.length_append]; omega), List.append_assoc]
          have hdn := delta_num bias 286400000 (by omega) (delta.toNat + 1) delta 36 i 1 0 (T ++ rest) h0 (by omega) hi0 (by omega) (by omega) (by omega) (fun _ => ⟨0, rfl⟩)
          rw [hdn]
          simp only
          have hLd : (((l1.filter (le_ c) ++ l2.filter (lt_ c)).length : Nat) : Int) = done := by rw [hL, hd]
          rw [hLd, Int.mul_one]
          have hx : i + delta = (l1.filter (le_ c)).length + (c - nd) * (done + 1) := by rw [Int.sub_mul]; omega
          have hp1 : ((l1.filter (le_ c)).length : Int) < done + 1 := by omega
          have hdiv : (i + delta) / (done + 1) = c - nd := by
            rw [hx, Int.add_mul_ediv_right _ _ (by omega), Int.ediv_eq_zero_of_lt (by omega) hp1]; omega
          have hmod : (i + delta) % (done + 1) = (l1.filter (le_ c)).length := by
            rw [hx, Int.add_mul_emod_self_right, Int.emod_eq_of_lt (by omega) hp1]
          have hcs := scalar_bnd hsc
          rw [hdiv, hmod, show nd + (c - nd) = c by omega, if_neg (by omega), if_neg (by simp [hsc])]
          rw [Int.toNat_natCast, List.take_left, List.drop_left]
          rw [show (0 + ((numL delta 36 bias).length : Int)).toNat = (numL delta 36 bias).length by omega, List.drop_left]
          rw [show i + delta - i = delta by omega, e1]
          have hdec : decide (i = 0) = decide (done = basic) := decide_eq_decide.2 hib
          rw [hdec]
          simp
      · have e1 : (l1 ++ [c]).filter (le_ m) = l1.filter (le_ m) := by
          rw [List.filter_append]; simp [le_, show ¬ c ≤ m by omega]
        have e2 : (c :: l2).filter (lt_ m) = l2.filter (lt_ m) := by simp [lt_, hc]
        have hstep : eStep m basic (b, delta, bias, done) c = (b, delta, bias, done) := by simp [eStep, hc, he]
        rw [hstep]
        have := ih (l1 ++ [c]) b delta bias done nd i hl' (by rw [hd, e1, e2]) (by omega) (by omega) hb0 hb1 hi0 hi1 hba hib (by rw [e1]; omega)
        rw [e1, happ] at this
        rw [e2]
        exact this

/-- All passes. -/
theorem loop_sim (l : List Int) (basic : Int) (hall : ∀ c ∈ l, scalar c = true) (hlen : l.length ≤ 256) : ∀ (k : Nat) (n : Int) (b : List UInt8) (delta bias done nd i : Int),
    128 ≤ n → n ≤ 1114112 → done = (l.filter (lt_ n)).length → 0 ≤ delta → delta ≤ 257 → 0 ≤ bias → bias ≤ 400 → 0 ≤ i → i ≤ done → basic ≤ done → (i = 0 ↔ done = basic) → nd * (done + 1) + i + delta = n * (done + 1) → (l.length : Int) ≤ k + done → (b.length : Int) ≤ 257 + 11 * done →
    ∃ T : List UInt8, eLoop l basic k n (b, delta, bias, done) = b ++ T ∧ (∀ c ∈ T, lowOrDigit c) ∧ (b ++ T).length ≤ 3073 ∧ ∀ K, T.length + 1 ≤ K → decL K T (l.filter (lt_ n)) nd i bias = some l := by
  intro k
  induction k with
  | zero =>
    intro n b delta bias done nd i h1 h2 hd hd0 hd1 hb0 hb1 hi0 hi1 hba hib heq hk hbl
    have hfl : (l.filter (lt_ n)).length ≤ l.length := List.length_filter_le _ _
    have hall' : l.filter (lt_ n) = l := List.Sublist.eq_of_length (List.filter_sublist (l := l)) (by omega)
    refine ⟨[], by simp [eLoop], by simp, by simp; omega, fun K hK => ?_⟩
    obtain ⟨K, rfl⟩ : ∃ K', K = K' + 1 := ⟨K - 1, by omega⟩
    rw [hall', decL, if_neg (by omega), if_pos (by simp)]
  | succ k ih =>
    intro n b delta bias done nd i h1 h2 hd hd0 hd1 hb0 hb1 hi0 hi1 hba hib heq hk hbl
    have hfl : (l.filter (lt_ n)).length ≤ l.length := List.length_filter_le _ _
    by_cases hlt : done < l.length
    · have hcp : ∀ x : Int, (l.countP fun c => decide (c < x)) = (l.filter (lt_ x)).length := fun x => List.countP_eq_length_filter
      have hall2 : ∀ c ∈ l, c ≤ 1114111 := fun c hc => (scalar_bnd (hall c hc)).2
      have hex := count_lt (l := l) (n := n) (by rw [hcp]; omega)
      have hnx := nxt_spec hex hall2
      have hsp := countP_split l n (nxt l n) hnx.2.1 hnx.2.2.2
      have hpos : 0 < l.countP fun c => decide (c = nxt l n) := List.countP_pos_iff.2 ⟨_, hnx.1, by simp⟩
      have hscm := hall _ hnx.1
      have hfm : l.filter (lt_ n) = l.filter (lt_ (nxt l n)) := by
        apply List.filter_congr
        intro c hc
        have := hnx.2.2.2 c hc
        simp only [lt_, decide_eq_decide]
        omega
      rw [eLoop]
      simp only
      rw [if_pos hlt]
      unfold eRound
      simp only
      generalize nxt l n = m at *
      have hm1 : (m - n) * (done + 1) ≤ 1114112 * 257 := Int.mul_le_mul (by omega) (by omega) (by omega) (by omega)
      have hm2 : 0 ≤ (m - n) * (done + 1) := Int.mul_nonneg (by omega) (by omega)
      have hpb := pass_bnd m basic (1114112 * 257 + 1000) (by omega) l (b, delta + (m - n) * (done + 1), bias, done) (by simp only; omega) (by simp only; omega) hb0 hb1 (by simp only; omega) hbl
      have hps := pass_sim m basic (by omega) hscm l [] b (delta + (m - n) * (done + 1)) bias done nd i (by simpa using hlen) (by simp only [List.filter_nil, List.nil_append]; rw [← hfm]; exact hd) (by omega) (by omega) hb0 hb1 hi0 hi1 hba hib
        (by simp only [List.filter_nil, List.length_nil]; rw [Int.sub_mul]; omega)
      simp only [List.filter_nil, List.nil_append] at hps hpb
      generalize List.foldl (eStep m basic) (b, delta + (m - n) * (done + 1), bias, done) l = r at *
      obtain ⟨rb, rd, rbi, rdo⟩ := r
      simp only at hps hpb ⊢
      obtain ⟨T, cnt, nd', i', t1, t2, t3, t4, t5, t6, t7, t8, t9, t10⟩ := hps
      obtain ⟨p1, p2, p3, p4, p5, p6, p7⟩ := hpb
      have hle : l.filter (le_ m) = l.filter (lt_ (m + 1)) := by
        apply List.filter_congr
        intro c hc
        simp only [lt_, le_, decide_eq_decide]
        omega
      have p7 := p7 hpos
      obtain ⟨T2, u1, u2, u3, u4⟩ := ih (m + 1) rb (rd + 1) rbi rdo nd' i' (by omega) (by omega) (by rw [t5, hle]) (by omega) (by omega) p3 p4 t6 t7 t8 t9 (by rw [Int.add_mul]; omega) (by omega) p6
      refine ⟨T ++ T2, by rw [u1, t1, List.append_assoc], ?_, by rw [← List.append_assoc, ← t1]; exact u3, fun K hK => ?_⟩
      · intro c hc
        rcases List.mem_append.1 hc with h | h
        · exact t3 c h
        · exact u2 c h
      · rw [List.length_append] at hK
        obtain ⟨K', rfl⟩ : ∃ K', K = K' + cnt := ⟨K - cnt, by omega⟩
        rw [hfm, t4, hle]
        exact u4 K' (by omega)
    · have hall' : l.filter (lt_ n) = l := List.Sublist.eq_of_length (List.filter_sublist (l := l)) (by omega)
      refine ⟨[], by rw [eLoop]; simp only; rw [if_neg hlt]; simp, by simp, by simp; omega, fun K hK => ?_⟩
      obtain ⟨K, rfl⟩ : ∃ K', K = K' + 1 := ⟨K - 1, by omega⟩
      rw [hall', decL, if_neg (by omega), if_pos (by simp)]

theorem deltaR_congr (bias : Int) : ∀ (r r' : List UInt8), r.map dgt = r'.map dgt → ∀ (a i w k : Int), deltaR r a i w k bias = deltaR r' a i w k bias := by
  intro r
  induction r with
  | nil => intro r' h; cases r' with
    | nil => intros; rfl
    | cons c r' => simp at h
  | cons c r ih =>
    intro r' h
    cases r' with
    | nil => simp at h
    | cons c' r' =>
      simp only [List.map_cons, List.cons.injEq] at h
      intro a i w k
      simp only [deltaR]
      rw [h.1, ih r' h.2]
theorem decL_congr : ∀ (k : Nat) (r r' : List UInt8) (l : List Int) (n i bias : Int), r.map dgt = r'.map dgt → decL k r l n i bias = decL k r' l n i bias := by
  intro k
  induction k with
  | zero => intros; rfl
  | succ k ih =>
    intro r r' l n i bias h
    have hlen : r.length = r'.length := by
      have := congrArg List.length h
      simpa using this
    simp only [decL]
    rw [deltaR_congr bias r r' h, hlen]
    split
    · rfl
    · split
      · rfl
      · split
        · rfl
        · rename_i x e _
          have : (r.drop e.toNat).map dgt = (r'.drop e.toNat).map dgt := by rw [List.map_drop, List.map_drop, h]
          split
          · rfl
          · split
            · rfl
            · exact ih _ _ _ _ _ _ this

theorem last_none (p T : List UInt8) (h : ∀ c ∈ T, c ≠ 45) : ∀ j, j ≤ T.length → lastIx (p ++ T) 45 (p.length + j) = lastIx (p ++ T) 45 p.length := by
  intro j
  induction j with
  | zero => intro _; rfl
  | succ j ih =>
    intro hj
    rw [← Nat.add_assoc, lastIx, if_neg, ih (by omega)]
    rw [List.getD_eq_getElem?_getD, List.getElem?_append_right (by omega), show p.length + j - p.length = j by omega, List.getElem?_eq_getElem (by omega)]
    exact h _ (List.getElem_mem _)
theorem cut_dash (q T : List UInt8) (h : ∀ c ∈ T, c ≠ 45) : cutAt ((q ++ [45]) ++ T) = q.length := by
  unfold cutAt
  rw [List.length_append, last_none (q ++ [45]) T h T.length (Nat.le_refl _), List.length_append]
  show lastIx _ 45 (q.length + 1) = _
  rw [lastIx, if_pos]
  simp [List.getD_eq_getElem?_getD]
theorem cut_none (T : List UInt8) (h : ∀ c ∈ T, c ≠ 45) : cutAt T = -1 := by
  unfold cutAt
  have := last_none [] T h T.length (Nat.le_refl _)
  simp only [List.nil_append, List.length_nil, Nat.zero_add] at this
  rw [this]; rfl

theorem encode_ok {l : List Int} (h : (encode l).2 = 0) : l.length ≤ 256 ∧ l.all scalar = true ∧ (encode l).1 = eLoop l (plain l).length l.length 128 (dash (plain l), 0, 72, (plain l).length) := by
  unfold encode at *
  split at h
  · simp at h
  · rename_i hl
    rw [if_neg hl]
    unfold enc at *
    by_cases ha : l.all scalar = true
    · rw [if_pos ha]; exact ⟨by omega, ha, rfl⟩
    · rw [if_neg ha] at h; simp at h
theorem plain_ints {l : List Int} (ha : l.all scalar = true) : (plain l).map (fun c => (c.toNat : Int)) = l.filter (lt_ 128) := by
  unfold plain
  rw [List.map_map]
  have : ∀ c ∈ l.filter (fun c => decide (c < 128)), ((fun c : UInt8 => (c.toNat : Int)) ∘ fun c : Int => UInt8.ofNat c.toNat) c = c := by
    intro c hc
    rw [List.mem_filter] at hc
    have h1 := scalar_bnd (List.all_eq_true.1 ha c hc.1)
    have h2 : c < 128 := by simpa using hc.2
    simp only [Function.comp]
    simp [UInt8.toNat_ofNat']
    omega
  rw [List.map_congr_left this, List.map_id']
  rfl
theorem plain_ok {l : List Int} (ha : l.all scalar = true) : ∀ c ∈ plain l, c.toNat < 128 := by
  intro c hc
  unfold plain at hc
  obtain ⟨d, hd, rfl⟩ := List.mem_map.1 hc
  rw [List.mem_filter] at hd
  have h1 := scalar_bnd (List.all_eq_true.1 ha d hd.1)
  have h2 : d < 128 := by simpa using hd.2
  simp [UInt8.toNat_ofNat']
  omega

/-- What was written: its signs below 80 and a dash, and letters; with letters great or small it is read as the signs. -/
theorem round {l : List Int} (h : (encode l).2 = 0) : ∃ T : List UInt8, (encode l).1 = dash (plain l) ++ T ∧ (∀ c ∈ T, lowOrDigit c) ∧ ((encode l).1.length ≤ 3073) ∧
    ∀ T' : List UInt8, T'.map dgt = T.map dgt → (∀ c ∈ T', c ≠ 45 ∧ c.toNat < 128) → decode (dash (plain l) ++ T') = (l, 0) := by
  obtain ⟨hl, ha, he⟩ := encode_ok h
  have hall := List.all_eq_true.1 ha
  have hpl : (plain l).length = (l.filter (lt_ 128)).length := by rw [← plain_ints ha, List.length_map]
  have hdl : (dash (plain l)).length ≤ 257 := by
    have : (l.filter (lt_ 128)).length ≤ l.length := List.length_filter_le _ _
    unfold dash; split <;> first | omega | (simp; omega)
  obtain ⟨T, h1, h2, h3, h4⟩ := loop_sim l (plain l).length hall hl l.length 128 (dash (plain l)) 0 72 (plain l).length 128 0 (by omega) (by omega) (by rw [hpl]) (by omega) (by omega) (by omega) (by omega) (by omega) (by omega) (by omega) (by simp) (by omega) (by omega) (by omega)
  refine ⟨T, by rw [he, h1], h2, by rw [he, h1]; exact h3, fun T' hd hT => ?_⟩
  have hlen : T'.length = T.length := by
    have := congrArg List.length hd
    simpa using this
  rw [List.length_append] at h3
  have hs : (dash (plain l) ++ T').length = (dash (plain l)).length + T.length := by rw [List.length_append, hlen]
  have key : dec (dash (plain l) ++ T') = some l := by
    unfold dec
    rw [if_pos]
    · have hn : ∀ c ∈ T', c ≠ 45 := fun c hc => (hT c hc).1
      by_cases hp : (plain l).length = 0
      · have hp0 : plain l = [] := List.eq_nil_of_length_eq_zero hp
        have hda : dash (plain l) = [] := by unfold dash; rw [if_pos hp, hp0]
        rw [hda, List.nil_append, cut_none T' hn, if_neg (by omega)]
        have := h4 (T'.length + 1) (by omega)
        rw [decL_congr _ _ _ _ _ _ _ hd.symm] at this
        rw [← this]
        have hf : l.filter (lt_ 128) = [] := List.eq_nil_of_length_eq_zero (by omega)
        rw [hf]; rfl
      · have hda : dash (plain l) = plain l ++ [45] := by unfold dash; rw [if_neg hp]
        rw [hda, cut_dash (plain l) T' hn, if_pos (by omega)]
        rw [show (((plain l).length : Int) + 1).toNat = (plain l ++ [45]).length by (first | (simp; done) | (simp; omega)), List.drop_left, Int.toNat_natCast, List.append_assoc, List.take_left, plain_ints ha]
        have := h4 ((plain l ++ ([45] ++ T')).length + 1) (by simp; omega)
        rw [decL_congr _ _ _ _ _ _ _ hd.symm] at this
        exact this
    · rw [List.all_append, Bool.and_eq_true]
      constructor
      · rw [List.all_eq_true]
        intro c hc
        unfold dash at hc
        split at hc
        · simpa using plain_ok ha c hc
        · rcases List.mem_append.1 hc with h | h
          · simpa using plain_ok ha c h
          · simp at h; subst h; decide
      · rw [List.all_eq_true]
        intro c hc
        simpa using (hT c hc).2
  unfold decode
  rw [if_neg (by rw [hs]; omega), key]

theorem low_ok {c : UInt8} (h : lowOrDigit c) : c ≠ 45 ∧ c.toNat < 128 := by
  unfold lowOrDigit at h
  refine ⟨fun he => ?_, by omega⟩
  subst he
  have : (45 : UInt8).toNat = 45 := rfl
  omega
theorem decode_encode {l : List Int} (h : (encode l).2 = 0) : decode (encode l).1 = (l, 0) := by
  obtain ⟨T, h1, h2, h3, h4⟩ := round h
  rw [h1]
  exact h4 T rfl (fun c hc => low_ok (h2 c hc))
theorem encode_inj {a b : List Int} (ha : (encode a).2 = 0) (hb : (encode b).2 = 0) : (encode a).1 = (encode b).1 ↔ a = b := by
  constructor
  · intro h
    have h1 := decode_encode ha
    rw [h, decode_encode hb] at h1
    injection h1 with h1; exact h1.symm
  · intro h; rw [h]
end Go.Puny
namespace Go.Puny
def ints (s : List UInt8) : List Int := s.map fun c => (c.toNat : Int)
theorem plain_of {s : List UInt8} (h : ∀ c ∈ s, c.toNat < 128) : plain (ints s) = s := by
  unfold plain ints
  rw [List.filter_map, List.filter_eq_self.2 (by intro c hc; have := h c hc; simp; omega), List.map_map]
  have : ∀ c ∈ s, ((fun c : Int => UInt8.ofNat c.toNat) ∘ fun c : UInt8 => (c.toNat : Int)) c = c := by
    intro c hc
    simp
  rw [List.map_congr_left this, List.map_id']
theorem encode_plain {s : List UInt8} (h : ∀ c ∈ s, c.toNat < 128) (hl : s.length ≤ 256) : encode (ints s) = (dash s, 0) := by
  have hlen : (ints s).length = s.length := by simp [ints]
  have hall : (ints s).all scalar = true := by
    rw [List.all_eq_true]
    intro c hc
    obtain ⟨d, hd, rfl⟩ := List.mem_map.1 hc
    have := h d hd
    simp [scalar]; omega
  unfold encode
  rw [if_neg (by omega)]
  unfold enc
  rw [if_pos hall, plain_of h, hlen]
  simp only
  cases hs : s.length with
  | zero => rfl
  | succ k => rw [eLoop, if_neg (by rw [hlen, hs]; simp)]
end Go.Puny
