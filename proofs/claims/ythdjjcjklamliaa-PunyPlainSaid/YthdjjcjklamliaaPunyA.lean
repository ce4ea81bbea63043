/- Walks through the small functions of the chapter on signs by few letters. -/
import Derived.Test.YthdjjcjklamliaaCfgR1
set_option linter.unusedVariables false
set_option linter.unusedSimpArgs false
namespace Go.Proofs
open Go.Lv
namespace Pu
variable {H : Heap}

theorem thr_w (k b : Int) (h1 : -1000000000000000 < k ∧ k < 1000000000000000) (h2 : -1000000000000 < b ∧ b < 1000000000000) : WF Try.prog cfg 26 [.i k, .i b] H (fun r H' => r = .i (Puny.thr k b) ∧ H' = H) := by
  have hm : ∀ d, cfg.muF 26 d = (false) := fun _ => rfl
  have hz : ∀ d, cfg.fzF 26 d = (false) := fun _ => rfl
  refine rF_fn rfl rfl Try.func26 rfl ?_
  repeat' (first | simp (disch := first | omega | assumption | decide) only [go_sem, hm, hz] | refine ifP_in (fun _ => ?_) (fun _ => ?_))
  rfl
theorem thr_r (k b : Int) (h1 : -1000000000000000 < k ∧ k < 1000000000000000) (h2 : -1000000000000 < b ∧ b < 1000000000000) : WF Try.prog cfg 19 [.i k, .i b] H (fun r H' => r = .i (Puny.thr k b) ∧ H' = H) := by
  have hm : ∀ d, cfg.muF 19 d = (false) := fun _ => rfl
  have hz : ∀ d, cfg.fzF 19 d = (false) := fun _ => rfl
  refine rF_fn rfl rfl Try.func19 rfl ?_
  repeat' (first | simp (disch := first | omega | assumption | decide) only [go_sem, hm, hz] | refine ifP_in (fun _ => ?_) (fun _ => ?_))
  rfl
theorem scalar_w (c : Int) : WF Try.prog cfg 14 [.i c] H (fun r H' => r = .b (Puny.scalar c) ∧ H' = H) := by
  have hm : ∀ d, cfg.muF 14 d = (false) := fun _ => rfl
  have hz : ∀ d, cfg.fzF 14 d = (false) := fun _ => rfl
  refine rF_fn rfl rfl Try.func14 rfl ?_
  repeat' (first | simp (disch := first | omega | assumption | decide) only [go_sem, hm, hz] | refine ifP_in (fun _ => ?_) (fun _ => ?_))
  all_goals (simp only [AV.v.injEq, Value.bool.injEq]; exact Bool.eq_iff_iff.2 (by simp [Puny.scalar]; omega))
theorem scalar_r (c : Int) : WF Try.prog cfg 18 [.i c] H (fun r H' => r = .b (Puny.scalar c) ∧ H' = H) := by
  have hm : ∀ d, cfg.muF 18 d = (false) := fun _ => rfl
  have hz : ∀ d, cfg.fzF 18 d = (false) := fun _ => rfl
  refine rF_fn rfl rfl Try.func18 rfl ?_
  repeat' (first | simp (disch := first | omega | assumption | decide) only [go_sem, hm, hz] | refine ifP_in (fun _ => ?_) (fun _ => ?_))
  all_goals (simp only [AV.v.injEq, Value.bool.injEq]; exact Bool.eq_iff_iff.2 (by simp [Puny.scalar]; omega))
theorem ltr_w (d : Int) (h1 : 0 ≤ d ∧ d < 36) : WF Try.prog cfg 27 [.i d] H (fun r H' => r = byteA (Puny.ltr d) ∧ H' = H) := by
  have hm : ∀ d, cfg.muF 27 d = (false) := fun _ => rfl
  have hz : ∀ d, cfg.fzF 27 d = (false) := fun _ => rfl
  refine rF_fn rfl rfl Try.func27 rfl ?_
  repeat' (first | simp (disch := first | omega | assumption | decide) only [go_sem, hm, hz] | refine ifP_in (fun _ => ?_) (fun _ => ?_))
  all_goals simp [Puny.ltr, byteA, *]
  all_goals omega
theorem ltr_r (d : Int) (h1 : 0 ≤ d ∧ d < 36) : WF Try.prog cfg 20 [.i d] H (fun r H' => r = byteA (Puny.ltr d) ∧ H' = H) := by
  have hm : ∀ d, cfg.muF 20 d = (false) := fun _ => rfl
  have hz : ∀ d, cfg.fzF 20 d = (false) := fun _ => rfl
  refine rF_fn rfl rfl Try.func20 rfl ?_
  repeat' (first | simp (disch := first | omega | assumption | decide) only [go_sem, hm, hz] | refine ifP_in (fun _ => ?_) (fun _ => ?_))
  all_goals simp [Puny.ltr, byteA, *]
  all_goals omega
theorem dgt_w (c : UInt8) : WF Try.prog cfg 29 [byteA c] H (fun r H' => r = .i (Puny.dgt c) ∧ H' = H) := by
  have hc := c.toNat_lt
  have hm : ∀ d, cfg.muF 29 d = (false) := fun _ => rfl
  have hz : ∀ d, cfg.fzF 29 d = (false) := fun _ => rfl
  refine rF_fn rfl rfl Try.func29 rfl ?_
  repeat' (first | simp (disch := first | omega | assumption | decide) only [go_sem, hm, hz] | refine ifP_in (fun _ => ?_) (fun _ => ?_))
  all_goals (simp only [AV.v.injEq, Value.int.injEq, true_and, Puny.dgt]; omega)
theorem val_r (c : UInt8) : WF Try.prog cfg 25 [byteA c] H (fun r H' => r = .i (if Puny.dgt c = 36 then -1 else Puny.dgt c) ∧ H' = H) := by
  have hc := c.toNat_lt
  have hm : ∀ d, cfg.muF 25 d = (false) := fun _ => rfl
  have hz : ∀ d, cfg.fzF 25 d = (false) := fun _ => rfl
  refine rF_fn rfl rfl Try.func25 rfl ?_
  repeat' (first | simp (disch := first | omega | assumption | decide) only [go_sem, hm, hz] | refine ifP_in (fun _ => ?_) (fun _ => ?_))
  all_goals (simp only [AV.v.injEq, Value.int.injEq, true_and, Puny.dgt]; omega)
end Pu
end Go.Proofs
