/- Walks through lists held against one another, and the chapter's examples. -/
import Derived.Test.YthdjjcjklamliaaPunyJ
import Derived.Test.YthdjjcjklamliaaPunyEx
set_option linter.unusedVariables false
set_option linter.unusedSimpArgs false
namespace Go.Proofs
open Go.Lv
namespace Pu
variable {H : Heap}

theorem eq_of_take {α : Type} [Inhabited α] {a b : List α} (hl : a.length = b.length) {i : Nat} (h : a.take i = b.take i) (hi : i < a.length) (hx : ix a (i : Int) = ix b (i : Int)) : a.take (i + 1) = b.take (i + 1) := by
  rw [List.take_add_one, List.take_add_one, h, List.getElem?_eq_getElem hi, List.getElem?_eq_getElem (by omega)]
  have e1 : ix a (i : Int) = a[i] := by simp [ix, List.getD_eq_getElem?_getD, List.getElem?_eq_getElem hi]
  have e2 : ix b (i : Int) = b[i] := by simp [ix, List.getD_eq_getElem?_getD, List.getElem?_eq_getElem (show i < b.length by omega)]
  rw [← e1, ← e2, hx]
theorem ints_w (a b : List Int) (ha : a.length ≤ 140737488355328) (hb : b.length ≤ 140737488355328) : WF Try.prog cfg 13 [.sl (a.map iA), .sl (b.map iA)] H (fun r H' => r = .b (decide (a = b)) ∧ H' = H) := by
  have hm : ∀ d, cfg.muF 13 d = (false) := fun _ => rfl
  have hz : ∀ d, cfg.fzF 13 d = (false) := fun _ => rfl
  refine rF_fn rfl rfl Try.func13 rfl ?_
  repeat' (first | simp (disch := first | omega | assumption | decide) only [go_sem, hm, hz] | refine ifP_in (fun _ => ?_) (fun _ => ?_))
  · rename_i h
    rw [decide_eq_false (by intro he; rw [he] at h; exact h rfl)]
  · rename_i h
    have hl : a.length = b.length := by omega
    refine rL_loop (σ := Nat) (fun i e H' => H' = H ∧ e 0 = .sl (a.map iA) ∧ e 1 = .sl (b.map iA) ∧ e 5 = .i i ∧ i ≤ a.length ∧ a.take i = b.take i) (fun i => a.length - i) 0 ?_ ?_
    · exact ⟨rfl, (by simp (disch := first | omega | assumption | decide) only [go_sem, *] <;> rfl), (by simp (disch := first | omega | assumption | decide) only [go_sem, *] <;> rfl), (by simp (disch := first | omega | assumption | decide) only [go_sem, *] <;> rfl), by omega, rfl⟩
    · rintro i e H ⟨rfl, g0, g1, g5, gi, ge⟩
      by_cases hil : i < a.length
      · repeat' (first | simp (disch := first | omega | assumption | decide) only [go_sem, hm, hz, g0, g1, g5] | refine ifP_in (fun _ => ?_) (fun _ => ?_))
        · rename_i hne
          rw [decide_eq_false (by intro he; rw [he] at hne; exact hne rfl)]
        · rename_i hne
          exact ⟨i + 1, ⟨rfl, by omega, eq_of_take hl ge hil (by omega)⟩, by omega⟩
      · obtain rfl : i = a.length := by omega
        rw [List.take_length, hl, List.take_length] at ge
        repeat' (first | simp (disch := first | omega | assumption | decide) only [go_sem, hm, hz, g0, g1, g5] | refine ifP_in (fun _ => ?_) (fun _ => ?_))
        rw [decide_eq_true ge]

theorem copyInts_w (a : List Int) (ha : a.length ≤ 1000000) : WF Try.prog cfg 8 [.sl (a.map iA)] H (fun r H' => r = .sl (a.map iA) ∧ H' = H) := by
  have hm : ∀ d, cfg.muF 8 d = (false) := fun _ => rfl
  have hz : ∀ d, cfg.fzF 8 d = (false) := fun _ => rfl
  refine rF_fn rfl rfl Try.func8 rfl ?_
  repeat' (first | simp (disch := first | omega | assumption | decide) only [go_sem, hm, hz] | refine ifP_in (fun _ => ?_) (fun _ => ?_))

theorem first_w : WF Try.prog cfg 7 [] H (fun r H' => r = .b true ∧ H <+: H') := by
  have hm : ∀ d, cfg.muF 7 d = (false) := fun _ => rfl
  have hz : ∀ d, cfg.fzF 7 d = (false) := fun _ => rfl
  refine rF_fn rfl rfl Try.func7 rfl ?_
  repeat' (first | simp (disch := first | omega | assumption | decide) only [go_sem, hm, hz] | refine ifP_in (fun _ => ?_) (fun _ => ?_))
  refine rF_use (encode_w [98, 252, 99, 104, 101, 114] (by decide)) ?_
  rintro _ H ⟨rfl, rfl⟩
  rw [Puny.encode_ex]
  repeat' (first | simp (disch := first | omega | assumption | decide) only [go_sem, hm, hz] | refine ifP_in (fun _ => ?_) (fun _ => ?_))
  refine rF_use (decode_w [116, 100, 97] (by decide)) ?_
  rintro _ H' ⟨rfl, hp⟩
  rw [Puny.decode_ex]
  repeat' (first | simp (disch := first | omega | assumption | decide) only [go_sem, hm, hz] | refine ifP_in (fun _ => ?_) (fun _ => ?_))
  refine rF_use (ints_w [252] [252] (by decide) (by decide)) ?_
  rintro _ H' ⟨rfl, rfl⟩
  repeat' (first | simp (disch := first | omega | assumption | decide) only [go_sem, hm, hz] | refine ifP_in (fun _ => ?_) (fun _ => ?_))
  exact hp
end Pu
end Go.Proofs
