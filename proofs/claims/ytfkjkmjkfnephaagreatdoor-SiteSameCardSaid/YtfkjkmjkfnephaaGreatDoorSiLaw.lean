/- A value semantics of the loaded code, its soundness, and walks through functions over it. -/
import Derived.Test.YtfkjkmjkfnephaaGreatDoorSpSpec
set_option linter.unusedVariables false
set_option linter.unusedSimpArgs false
namespace Si
abbrev Bs := List UInt8
def okS (name s : Bs) : Bool := decide (s = name) || (decide (s.length < name.length) && decide (name.drop (name.length - (s.length + 1)) = 46 :: s))
def lastLabel (name : Bs) : Bs := (Sp.split 46 name).getLastD []
def stepD (name f s : Bs) : Bs := if (okS name s && decide (f.length < s.length)) = true then s else f
def foundD (name : Bs) (l : List Bs) : Bs := l.foldl (stepD name) []
def suffix (name : Bs) (l : List Bs) : Bs := if foundD name l = [] then lastLabel name else foundD name l
def stepP (name : Bs) (p : Bs × Bool) (s : Bs) : Bs × Bool := if (okS name s && (!p.2 || decide (p.1.length < s.length))) = true then (s, true) else p
def lastIx (c : UInt8) (s : Bs) : Nat → Nat
 | 0 => 0
 | k + 1 => if s.getD k 0 = c then k + 1 else lastIx c s k
theorem lastIx_le (c : UInt8) (s : Bs) : ∀ k, lastIx c s k ≤ k := by
 intro k
 induction k with
 | zero => exact Nat.le_refl 0
 | succ k ih => unfold lastIx; split <;> omega
theorem lastIx_none {c : UInt8} {s : Bs} : ∀ k, k ≤ s.length → c ∉ (s.take k).drop (lastIx c s k) := by
 intro k
 induction k with
 | zero => intro _; simp
 | succ k ih =>
  intro hk
  unfold lastIx
  split
  ·rw [List.drop_eq_nil_of_le (by rw [List.length_take]; omega)]; simp
  ·rename_i hn
   have := lastIx_le c s k
   rw [List.take_succ_eq_append_getElem (by omega), List.drop_append_of_le_length (by simp; omega), List.mem_append, not_or]
   refine ⟨ih (by omega), ?_⟩
   rw [List.getD_eq_getElem?_getD, List.getElem?_eq_getElem (by omega)] at hn
   simp only [List.mem_singleton]
   exact fun e => hn e.symm
theorem lastIx_at {c : UInt8} {s : Bs} : ∀ k, k ≤ s.length → lastIx c s k ≠ 0 → s[lastIx c s k - 1]? = some c := by
 intro k
 induction k with
 | zero => intro _ h; exact absurd rfl h
 | succ k ih =>
  intro hk h
  unfold lastIx at h ⊢
  split
  ·rename_i he
   rw [List.getD_eq_getElem?_getD, List.getElem?_eq_getElem (by omega)] at he
   rw [show k + 1 - 1 = k by omega, List.getElem?_eq_getElem (by omega)]
   exact congrArg some he
  ·rename_i hn
   rw [if_neg hn] at h
   exact ih (by omega) h
theorem last_cut {c : UInt8} {a b : Bs} (h : c ∉ b) : (Sp.split c (a ++ c :: b)).getLastD [] = b := by
 rw [Sp.split_cat, Sp.split_cons_sep, Sp.split_none h]
 simp
theorem lastLabel_ix (s : Bs) : lastLabel s = s.drop (lastIx 46 s s.length) := by
 have h1 := lastIx_none (c := 46) (s := s) s.length (Nat.le_refl _)
 have h2 := lastIx_at (c := 46) (s := s) s.length (Nat.le_refl _)
 have h3 := lastIx_le 46 s s.length
 rw [List.take_length] at h1
 generalize lastIx 46 s s.length = i at *
 unfold lastLabel
 by_cases h0 : i = 0
 ·subst h0
  rw [List.drop_zero] at h1 ⊢
  rw [Sp.split_none h1]; rfl
 ·have h2 := h2 h0
  have e : s = s.take (i - 1) ++ 46 :: s.drop i := by
   conv => lhs; rw [← List.take_append_drop (i - 1) s]
   congr 1
   obtain ⟨hl, he⟩ := List.getElem?_eq_some_iff.1 h2
   rw [List.drop_eq_getElem_cons hl, he, show i - 1 + 1 = i by omega]
  conv => lhs; rw [e]
  exact last_cut h1
def Ends (name s : Bs) : Prop := s = name ∨ ∃ p, name = p ++ 46 :: s
theorem okS_ends {name s : Bs} (h : okS name s = true) : Ends name s := by
 unfold okS at h
 rcases Bool.or_eq_true _ _ ▸ h with h | h
 ·exact .inl (of_decide_eq_true h)
 ·rw [Bool.and_eq_true] at h
  have h2 := of_decide_eq_true h.2
  refine .inr ⟨name.take (name.length - (s.length + 1)), ?_⟩
  rw [← h2, List.take_append_drop]
theorem lastLabel_ends (name : Bs) : Ends name (lastLabel name) := by
 rw [lastLabel_ix]
 have h2 := lastIx_at (c := 46) (s := name) name.length (Nat.le_refl _)
 generalize lastIx 46 name name.length = i at *
 by_cases h0 : i = 0
 ·subst h0; exact .inl (List.drop_zero ..)
 ·have h2 := h2 h0
  refine .inr ⟨name.take (i - 1), ?_⟩
  conv => lhs; rw [← List.take_append_drop (i - 1) name]
  congr 1
  obtain ⟨hl, he⟩ := List.getElem?_eq_some_iff.1 h2
  rw [List.drop_eq_getElem_cons hl, he, show i - 1 + 1 = i by omega]
theorem okS_nil {name : Bs} (h : okS name [] = true) : lastLabel name = [] := by
 rcases okS_ends h with rfl | ⟨p, rfl⟩
 ·rfl
 ·exact last_cut (by simp)
theorem found_ends (name : Bs) : ∀ (l : List Bs) (f : Bs), (f = [] ∨ Ends name f) → (l.foldl (stepD name) f = [] ∨ Ends name (l.foldl (stepD name) f)) := by
 intro l
 induction l with
 | nil => intro f h; exact h
 | cons s l ih =>
  intro f h
  rw [List.foldl_cons]
  refine ih _ ?_
  unfold stepD
  split
  ·rename_i hc
   rw [Bool.and_eq_true] at hc
   exact .inr (okS_ends hc.1)
  ·exact h
theorem suffix_ends (name : Bs) (l : List Bs) : Ends name (suffix name l) := by
 unfold suffix
 split
 ·exact lastLabel_ends name
 ·rename_i h
  rcases found_ends name l [] (.inl rfl) with h2 | h2
  ·exact absurd h2 h
  ·exact h2
theorem fold_alike (name : Bs) : ∀ (l : List Bs) (f b : Bs) (t : Bool), (t = false → f = [] ∧ b = lastLabel name) → (t = true → b = f ∧ (f = [] → lastLabel name = [])) →
  (l.foldl (stepP name) (b, t)).1 = if l.foldl (stepD name) f = [] then lastLabel name else l.foldl (stepD name) f := by
 intro l
 induction l with
 | nil =>
  intro f b t h1 h2
  simp only [List.foldl_nil]
  cases t with
  | false => obtain ⟨rfl, rfl⟩ := h1 rfl; simp
  | true =>
   obtain ⟨rfl, h⟩ := h2 rfl
   by_cases he : b = []
   ·simp [he, h he]
   ·simp [he]
 | cons s l ih =>
  intro f b t h1 h2
  rw [List.foldl_cons, List.foldl_cons]
  cases t with
  | false =>
   obtain ⟨rfl, rfl⟩ := h1 rfl
   by_cases hk : okS name s = true
   ·have hP : stepP name (lastLabel name, false) s = (s, true) := by unfold stepP; rw [hk]; rfl
    have hD : stepD name [] s = s := by
     unfold stepD
     rw [hk]
     cases s with
     | nil => rfl
     | cons x s => rfl
    rw [hP, hD]
    refine ih s s true (by simp) fun _ => ⟨rfl, fun h0 => ?_⟩
    subst h0
    exact okS_nil hk
   ·have hP : stepP name (lastLabel name, false) s = (lastLabel name, false) := by unfold stepP; rw [Bool.eq_false_iff.2 hk]; rfl
    have hD : stepD name [] s = [] := by unfold stepD; rw [Bool.eq_false_iff.2 hk]; rfl
    rw [hP, hD]
    exact ih [] _ false (fun _ => ⟨rfl, rfl⟩) (by simp)
  | true =>
   obtain ⟨rfl, h⟩ := h2 rfl
   by_cases hk : (okS name s && decide (b.length < s.length)) = true
   ·have hP : stepP name (b, true) s = (s, true) := by unfold stepP; simp only [Bool.not_true, Bool.false_or]; rw [if_pos hk]
    have hD : stepD name b s = s := by unfold stepD; rw [if_pos hk]
    rw [hP, hD]
    refine ih s s true (by simp) fun _ => ⟨rfl, fun h0 => ?_⟩
    subst h0
    rw [Bool.and_eq_true] at hk
    exact okS_nil hk.1
   ·have hP : stepP name (b, true) s = (b, true) := by unfold stepP; simp only [Bool.not_true, Bool.false_or]; rw [if_neg hk]
    have hD : stepD name b s = b := by unfold stepD; rw [if_neg hk]
    rw [hP, hD]
    exact ih b b true (by simp) fun _ => ⟨rfl, h⟩
theorem suffix_alike (name : Bs) (l : List Bs) : (l.foldl (stepP name) (lastLabel name, false)).1 = suffix name l :=
 fold_alike name l [] _ false (fun _ => ⟨rfl, rfl⟩) (by simp)
def reg (name : Bs) (l : List Bs) : Bs := if (suffix name l).length = name.length then name else lastLabel (name.take (name.length - (suffix name l).length - 1)) ++ [46] ++ suffix name l
theorem reg_alike (name : Bs) (l : List Bs) (h : (suffix name l).length ≠ name.length) :
  (suffix name l).length < name.length ∧ name.drop (lastIx 46 (name.take (name.length - (suffix name l).length - 1)) (name.take (name.length - (suffix name l).length - 1)).length) = reg name l := by
 have he := suffix_ends name l
 unfold reg
 rw [if_neg h]
 generalize suffix name l = s at *
 rcases he with rfl | ⟨p, hp⟩
 ·exact absurd rfl h
 ·have hl : name.length = p.length + (s.length + 1) := by rw [hp]; simp
  refine ⟨by omega, ?_⟩
  have ht : name.take (name.length - s.length - 1) = p := by
   rw [show name.length - s.length - 1 = p.length by omega, hp]; simp
  rw [ht, lastLabel_ix]
  have := lastIx_le 46 p p.length
  rw [hp, List.drop_append_of_le_length (by omega)]
  simp
end Si
