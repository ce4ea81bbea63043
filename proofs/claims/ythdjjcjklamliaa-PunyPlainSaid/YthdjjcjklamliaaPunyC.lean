/- Walks through next. -/
import Derived.Test.YthdjjcjklamliaaPunyB
set_option linter.unusedVariables false
set_option linter.unusedSimpArgs false
namespace Go.Proofs
open Go.Lv
namespace Pu
variable {H : Heap}

theorem foldl_take {α β : Type} [Inhabited α] (f : β → α → β) (b : β) (l : List α) (i : Nat) (h : i < l.length) : (l.take (i + 1)).foldl f b = f ((l.take i).foldl f b) (ix l (i : Int)) := by
  rw [List.take_add_one, List.foldl_append]
  simp [ix, List.getD_eq_getElem?_getD, List.getElem?_eq_getElem h]

theorem next_w (l : List Int) (n : Int) (hl : l.length < 1000000) : WF Try.prog cfg 15 [.sl (l.map fun n => AV.v (.int .i64 n)), .i n] H (fun r H' => r = .i (Puny.nxt l n) ∧ H' = H) := by
  have hm : ∀ d, cfg.muF 15 d = (false) := fun _ => rfl
  have hz : ∀ d, cfg.fzF 15 d = (false) := fun _ => rfl
  refine rF_fn rfl rfl Try.func15 rfl ?_
  repeat' (first | simp (disch := first | omega | assumption | decide) only [go_sem, hm, hz] | refine ifP_in (fun _ => ?_) (fun _ => ?_))
  refine rL_loop (σ := Nat) (fun i e H' => H' = H ∧ e 1 = .i n ∧ e 8 = .sl (l.map fun n => AV.v (.int .i64 n)) ∧ e 9 = .i l.length ∧ e 10 = .i i ∧ i ≤ l.length ∧ e 5 = .i ((l.take i).foldl (Puny.nx n) 2147483647)) (fun i => l.length - i) 0 ?_ ?_
  · refine ⟨rfl, ?_, ?_, ?_, ?_, by omega, ?_⟩ <;> simp (disch := first | assumption | omega) only [go_sem] <;> rfl
  · rintro i e H' ⟨rfl, g1, g8, g9, g10, gi, g5⟩
    repeat' (first | simp (disch := first | omega | assumption | decide) only [go_sem, hm, hz, g1, g8, g9, g10, g5] | refine ifP_in (fun _ => ?_) (fun _ => ?_))
    · refine ⟨i + 1, ⟨by simp, by omega, ?_⟩, by omega⟩
      rw [foldl_take _ _ _ _ (by omega), Puny.nx, if_pos (by assumption)]
    · refine ⟨i + 1, ⟨by simp, by omega, ?_⟩, by omega⟩
      rw [foldl_take _ _ _ _ (by omega), Puny.nx, if_neg (by assumption)]
    · rw [List.take_of_length_le (by omega)]; rfl
end Pu
end Go.Proofs
