/- A value semantics of the loaded code, its soundness, and walks through functions over it. -/
import Derived.RowKit
set_option linter.unusedVariables false
set_option linter.unusedSimpArgs false
namespace Sp
section
variable {α : Type}
def join (sep : List α) : List (List α) → List α
 | [] => []
 | [x] => x
 | x :: y :: r => x ++ sep ++ join sep (y :: r)
theorem join_cons {sep x : List α} {r : List (List α)} (h : r ≠ []) : join sep (x :: r) = x ++ sep ++ join sep r := by
 cases r with
 | nil => exact absurd rfl h
 | cons y r => rfl
theorem mem_join {sep : List α} : ∀ {l : List (List α)} {x : α}, x ∈ join sep l → x ∈ sep ∨ ∃ y ∈ l, x ∈ y := by
 intro l
 induction l with
 | nil => intro x h; simp [join] at h
 | cons a r ih =>
  intro x h
  cases r with
  | nil => rw [join] at h; exact .inr ⟨a, by simp, h⟩
  | cons b r =>
   rw [join, List.mem_append, List.mem_append] at h
   rcases h with (h | h) | h
   ·exact .inr ⟨a, by simp, h⟩
   ·exact .inl h
   ·rcases ih h with h | ⟨y, hy, h⟩
    ·exact .inl h
    ·exact .inr ⟨y, by simp [hy], h⟩
theorem mem_join_of {sep : List α} : ∀ {l : List (List α)} {y : List α} {x : α}, y ∈ l → x ∈ y → x ∈ join sep l := by
 intro l
 induction l with
 | nil => intro y x h; cases h
 | cons a r ih =>
  intro y x hy hx
  cases r with
  | nil =>
   rcases List.mem_cons.1 hy with rfl | hy
   ·rw [join]; exact hx
   ·cases hy
  | cons b r =>
   rw [join, List.mem_append, List.mem_append]
   rcases List.mem_cons.1 hy with rfl | hy
   ·exact .inl (.inl hx)
   ·exact .inr (ih hy hx)
end
variable {α : Type} [DecidableEq α]
def split (c : α) : List α → List (List α)
 | [] => [[]]
 | x :: r => if x = c then [] :: split c r else match split c r with
  | [] => [[x]]
  | y :: ys => (x :: y) :: ys
variable {c : α}
theorem split_pos (l : List α) : 0 < (split c l).length := by
 cases l with
 | nil => simp [split]
 | cons x r =>
  unfold split
  split
  ·simp
  ·split <;> simp
theorem split_ne (l : List α) : split c l ≠ [] := List.length_pos_iff.1 (split_pos l)
theorem split_none {l : List α} (h : c ∉ l) : split c l = [l] := by
 induction l with
 | nil => rfl
 | cons x r ih =>
  simp at h
  unfold split
  rw [if_neg (fun e => h.1 e.symm), ih h.2]
theorem split_cons_sep (r : List α) : split c (c :: r) = [] :: split c r := by rw [split, if_pos rfl]
theorem split_append {a b : List α} (h : c ∉ a) : split c (a ++ c :: b) = a :: split c b := by
 induction a with
 | nil => rw [List.nil_append, split_cons_sep]
 | cons x r ih =>
  simp at h
  rw [List.cons_append, split, if_neg (fun e => h.1 e.symm), ih h.2]
theorem split_parts (l : List α) : ∀ x ∈ split c l, c ∉ x := by
 induction l with
 | nil => intro x hx; simp [split] at hx; subst hx; simp
 | cons y r ih =>
  intro x hx
  unfold split at hx
  split at hx
  ·rcases List.mem_cons.1 hx with rfl | hx
   ·simp
   ·exact ih x hx
  ·rename_i hy
   have hne := split_ne (c := c) r
   cases hs : split c r with
   | nil => exact absurd hs hne
   | cons z zs =>
    rw [hs] at hx ih
    rcases List.mem_cons.1 hx with rfl | hx
    ·simp only [List.mem_cons, not_or]
     exact ⟨fun e => hy e.symm, ih z (by simp)⟩
    ·exact ih x (by simp [hx])
theorem join_split (l : List α) : join [c] (split c l) = l := by
 induction l with
 | nil => rfl
 | cons x r ih =>
  unfold split
  split
  ·rename_i hx
   rw [join_cons (split_ne r), ih, hx]; simp
  ·cases hs : split c r with
   | nil => exact absurd hs (split_ne r)
   | cons z zs =>
    rw [hs] at ih
    simp only
    cases zs with
    | nil => rw [join] at ih ⊢; rw [ih]
    | cons u us => rw [join] at ih ⊢; rw [← ih]; simp
theorem split_join : ∀ {l : List (List α)}, l ≠ [] → (∀ x ∈ l, c ∉ x) → split c (join [c] l) = l := by
 intro l
 induction l with
 | nil => intro h; exact absurd rfl h
 | cons x r ih =>
  intro _ h
  cases r with
  | nil => rw [join, split_none (h x (by simp))]
  | cons y r =>
   rw [join, List.append_assoc, List.singleton_append, split_append (h x (by simp)), ih (by simp) (fun z hz => h z (by simp [hz]))]
theorem split_cat (l m : List α) : split c (l ++ m) = (split c l).dropLast ++ ((split c l).getLastD [] ++ (split c m).headD []) :: (split c m).tail := by
 induction l with
 | nil =>
  cases hs : split c m with
  | nil => exact absurd hs (split_ne m)
  | cons z zs => simp [split, hs]
 | cons x r ih =>
  rw [List.cons_append]
  by_cases hx : x = c
  ·subst hx
   rw [split_cons_sep, split_cons_sep, ih]
   have hne := split_ne (c := x) r
   cases hr : split x r with
   | nil => exact absurd hr hne
   | cons z zs => simp
  ·rw [split, if_neg hx, ih]
   have hne := split_ne (c := c) r
   conv => rhs; rw [split, if_neg hx]
   cases hr : split c r with
   | nil => exact absurd hr hne
   | cons z zs =>
    cases zs with
    | nil => simp
    | cons u us => simp
end Sp
