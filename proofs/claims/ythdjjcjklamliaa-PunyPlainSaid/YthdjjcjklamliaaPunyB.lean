/- Walks through adapt. -/
import Derived.Test.YthdjjcjklamliaaPunyA
set_option linter.unusedVariables false
set_option linter.unusedSimpArgs false
namespace Go.Proofs
open Go.Lv
namespace Pu
variable {H : Heap}

theorem adaptL_bnd (d k : Int) (h : 0 ≤ d) : 0 ≤ (Puny.adaptL d k).1 ∧ (Puny.adaptL d k).1 ≤ 455 ∧ k ≤ (Puny.adaptL d k).2 := by
  fun_induction Puny.adaptL d k with
  | case1 d k h1 ih => have := ih (by omega); omega
  | case2 d k h1 => simp; omega

theorem adapt_w (delta n : Int) (b : Bool) (h0 : 0 ≤ delta ∧ delta < 1000000000000) (h1 : 0 < n ∧ n < 1000000) : WF Try.prog cfg 17 [.i delta, .i n, .b b] H (fun r H' => r = .i (Puny.adapt delta n b) ∧ H' = H) := by
  have hd : ∀ x : Int, 0 ≤ x → 0 ≤ x / n ∧ x / n ≤ x := fun x hx => ⟨Int.ediv_nonneg hx (by omega), Int.ediv_le_self _ hx⟩
  have hd1 := hd (delta / 700) (by omega)
  have hd2 := hd (delta / 2) (by omega)
  have he : ∀ x : Int, 0 ≤ x → 0 ≤ 36 * x / (x + 38) ∧ 36 * x / (x + 38) ≤ 36 * x := fun x hx => ⟨Int.ediv_nonneg (by omega) (by omega), Int.ediv_le_self _ (by omega)⟩
  clear hd
  have hm : ∀ d, cfg.muF 17 d = (false) := fun _ => rfl
  have hz : ∀ d, cfg.fzF 17 d = (false) := fun _ => rfl
  refine rF_fn rfl rfl Try.func17 rfl ?_
  repeat' (first | simp (disch := first | omega | assumption | decide) only [go_sem, hm, hz, Nat.reducePow] | refine ifP_in (fun _ => ?_) (fun _ => ?_))
  · refine rL_loop (σ := Int × Int) (fun s e H' => H' = H ∧ e 0 = .i s.1 ∧ e 7 = .i s.2 ∧ 0 ≤ s.1 ∧ 0 ≤ s.2 ∧ s.2 + s.1 < 9000000000000 ∧ Puny.adaptL s.1 s.2 = Puny.adaptL (delta / 700 + delta / 700 / n) 0) (fun s => s.1.toNat) (delta / 700 + delta / 700 / n, 0) ?_ ?_
    · refine ⟨rfl, ?_, ?_, by omega, by omega, by omega, rfl⟩
      · simp (disch := first | omega | assumption | decide) only [go_sem, hm, hz]
      · simp (disch := first | omega | assumption | decide) only [go_sem, hm, hz]
    · rintro ⟨d, k⟩ e H' ⟨rfl, g0, g7, g1, g3, g4, g5⟩
      simp only at g0 g7 g1 g3 g4 g5
      rw [Puny.adaptL] at g5
      have he := he d g1
      repeat' (first | simp (disch := first | omega | assumption | decide) only [go_sem, hm, hz, g0, g7] | refine ifP_in (fun _ => ?_) (fun _ => ?_))
      · rw [dif_pos (by assumption)] at g5
        exact ⟨(d / 35, k + 36), ⟨rfl, rfl, by simp only; omega, by simp only; omega, by simp only; omega, g5⟩, by simp only; omega⟩
      · rw [dif_neg (by assumption)] at g5
        have hb : b = true := by assumption
        simp only [AV.v.injEq, Value.int.injEq, true_and, Puny.adapt, hb, if_true, ← g5]
  · refine rL_loop (σ := Int × Int) (fun s e H' => H' = H ∧ e 0 = .i s.1 ∧ e 7 = .i s.2 ∧ 0 ≤ s.1 ∧ 0 ≤ s.2 ∧ s.2 + s.1 < 9000000000000 ∧ Puny.adaptL s.1 s.2 = Puny.adaptL (delta / 2 + delta / 2 / n) 0) (fun s => s.1.toNat) (delta / 2 + delta / 2 / n, 0) ?_ ?_
    · refine ⟨rfl, ?_, ?_, by omega, by omega, by omega, rfl⟩
      · simp (disch := first | omega | assumption | decide) only [go_sem, hm, hz]
      · simp (disch := first | omega | assumption | decide) only [go_sem, hm, hz]
    · rintro ⟨d, k⟩ e H' ⟨rfl, g0, g7, g1, g3, g4, g5⟩
      simp only at g0 g7 g1 g3 g4 g5
      rw [Puny.adaptL] at g5
      have he := he d g1
      repeat' (first | simp (disch := first | omega | assumption | decide) only [go_sem, hm, hz, g0, g7] | refine ifP_in (fun _ => ?_) (fun _ => ?_))
      · rw [dif_pos (by assumption)] at g5
        exact ⟨(d / 35, k + 36), ⟨rfl, rfl, by simp only; omega, by simp only; omega, by simp only; omega, g5⟩, by simp only; omega⟩
      · rw [dif_neg (by assumption)] at g5
        have hb : b = false := by simpa using (by assumption : ¬ b = true)
        simp only [AV.v.injEq, Value.int.injEq, true_and, Puny.adapt, hb, Bool.false_eq_true, if_false, ← g5]
theorem adapt_r (delta n : Int) (b : Bool) (h0 : 0 ≤ delta ∧ delta < 1000000000000) (h1 : 0 < n ∧ n < 1000000) : WF Try.prog cfg 21 [.i delta, .i n, .b b] H (fun r H' => r = .i (Puny.adapt delta n b) ∧ H' = H) := by
  have hd : ∀ x : Int, 0 ≤ x → 0 ≤ x / n ∧ x / n ≤ x := fun x hx => ⟨Int.ediv_nonneg hx (by omega), Int.ediv_le_self _ hx⟩
  have hd1 := hd (delta / 700) (by omega)
  have hd2 := hd (delta / 2) (by omega)
  have he : ∀ x : Int, 0 ≤ x → 0 ≤ 36 * x / (x + 38) ∧ 36 * x / (x + 38) ≤ 36 * x := fun x hx => ⟨Int.ediv_nonneg (by omega) (by omega), Int.ediv_le_self _ (by omega)⟩
  clear hd
  have hm : ∀ d, cfg.muF 21 d = (false) := fun _ => rfl
  have hz : ∀ d, cfg.fzF 21 d = (false) := fun _ => rfl
  refine rF_fn rfl rfl Try.func21 rfl ?_
  repeat' (first | simp (disch := first | omega | assumption | decide) only [go_sem, hm, hz, Nat.reducePow] | refine ifP_in (fun _ => ?_) (fun _ => ?_))
  · refine rL_loop (σ := Int × Int) (fun s e H' => H' = H ∧ e 0 = .i s.1 ∧ e 7 = .i s.2 ∧ 0 ≤ s.1 ∧ 0 ≤ s.2 ∧ s.2 + s.1 < 9000000000000 ∧ Puny.adaptL s.1 s.2 = Puny.adaptL (delta / 700 + delta / 700 / n) 0) (fun s => s.1.toNat) (delta / 700 + delta / 700 / n, 0) ?_ ?_
    · refine ⟨rfl, ?_, ?_, by omega, by omega, by omega, rfl⟩
      · simp (disch := first | omega | assumption | decide) only [go_sem, hm, hz]
      · simp (disch := first | omega | assumption | decide) only [go_sem, hm, hz]
    · rintro ⟨d, k⟩ e H' ⟨rfl, g0, g7, g1, g3, g4, g5⟩
      simp only at g0 g7 g1 g3 g4 g5
      rw [Puny.adaptL] at g5
      have he := he d g1
      repeat' (first | simp (disch := first | omega | assumption | decide) only [go_sem, hm, hz, g0, g7] | refine ifP_in (fun _ => ?_) (fun _ => ?_))
      · rw [dif_pos (by assumption)] at g5
        exact ⟨(d / 35, k + 36), ⟨rfl, rfl, by simp only; omega, by simp only; omega, by simp only; omega, g5⟩, by simp only; omega⟩
      · rw [dif_neg (by assumption)] at g5
        have hb : b = true := by assumption
        simp only [AV.v.injEq, Value.int.injEq, true_and, Puny.adapt, hb, if_true, ← g5]
  · refine rL_loop (σ := Int × Int) (fun s e H' => H' = H ∧ e 0 = .i s.1 ∧ e 7 = .i s.2 ∧ 0 ≤ s.1 ∧ 0 ≤ s.2 ∧ s.2 + s.1 < 9000000000000 ∧ Puny.adaptL s.1 s.2 = Puny.adaptL (delta / 2 + delta / 2 / n) 0) (fun s => s.1.toNat) (delta / 2 + delta / 2 / n, 0) ?_ ?_
    · refine ⟨rfl, ?_, ?_, by omega, by omega, by omega, rfl⟩
      · simp (disch := first | omega | assumption | decide) only [go_sem, hm, hz]
      · simp (disch := first | omega | assumption | decide) only [go_sem, hm, hz]
    · rintro ⟨d, k⟩ e H' ⟨rfl, g0, g7, g1, g3, g4, g5⟩
      simp only at g0 g7 g1 g3 g4 g5
      rw [Puny.adaptL] at g5
      have he := he d g1
      repeat' (first | simp (disch := first | omega | assumption | decide) only [go_sem, hm, hz, g0, g7] | refine ifP_in (fun _ => ?_) (fun _ => ?_))
      · rw [dif_pos (by assumption)] at g5
        exact ⟨(d / 35, k + 36), ⟨rfl, rfl, by simp only; omega, by simp only; omega, by simp only; omega, g5⟩, by simp only; omega⟩
      · rw [dif_neg (by assumption)] at g5
        have hb : b = false := by simpa using (by assumption : ¬ b = true)
        simp only [AV.v.injEq, Value.int.injEq, true_and, Puny.adapt, hb, Bool.false_eq_true, if_false, ← g5]
end Pu
end Go.Proofs
