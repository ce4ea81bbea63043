/- Walks through the laws. -/
import Derived.Test.YthdjjcjklamliaaPunyK
set_option linter.unusedVariables false
set_option linter.unusedSimpArgs false
namespace Go.Proofs
open Go.Lv
namespace Pu
variable {H : Heap}

theorem enc_err {l : List Int} (h : (Puny.encode l).2 ≠ 0) : (Puny.encode l).1 = [] := by
  unfold Puny.encode at *
  split
  · rfl
  · rename_i h1
    rw [if_neg h1] at h
    split
    · rename_i s hs; rw [hs] at h; exact absurd rfl h
    · rfl
theorem dec_len (s : List UInt8) (hs : s.length ≤ 140737488355328) : (Puny.decode s).1.length ≤ 256 := by
  have key : ∀ (k : Nat) (r : List UInt8) (l : List Int) (n i b : Int) (m : List Int), Puny.decL k r l n i b = some m → m.length ≤ 256 := by
    intro k
    induction k with
    | zero => intro r l n i b m h; cases h
    | succ k ih =>
      intro r l n i b m h
      rw [Puny.decL] at h
      split at h
      · cases h
      · split at h
        · injection h with h; subst h; omega
        · split at h
          · cases h
          · split at h
            · cases h
            · split at h
              · cases h
              · exact ih _ _ _ _ _ _ h
  unfold Puny.decode
  split
  · simp
  · split
    · rename_i l hl
      unfold Puny.dec at hl
      split at hl
      · exact key _ _ _ _ _ _ _ hl
      · cases hl
    · simp

theorem codes_w (l : List Int) (s : List UInt8) (hl : l.length ≤ 140737488355328) (hs : s.length ≤ 140737488355328) : WF Try.prog cfg 3 [.sl (l.map iA), .str s] H (fun r H' => r = .b true) := by
  have hm : ∀ d, cfg.muF 3 d = (false) := fun _ => rfl
  have hz : ∀ d, cfg.fzF 3 d = (false) := fun _ => rfl
  refine rF_fn rfl rfl Try.func3 rfl ?_
  repeat' (first | simp (disch := first | omega | assumption | decide) only [go_sem, hm, hz] | refine ifP_in (fun _ => ?_) (fun _ => ?_))
  refine rF_use first_w ?_
  rintro _ H1 ⟨rfl, hp⟩
  repeat' (first | simp (disch := first | omega | assumption | decide) only [go_sem, hm, hz] | refine ifP_in (fun _ => ?_) (fun _ => ?_))
  rotate_left
  · refine rF_use (copyInts_w l (by omega)) ?_
    rintro _ H1 ⟨rfl, rfl⟩
    repeat' (first | simp (disch := first | omega | assumption | decide) only [go_sem, hm, hz] | refine ifP_in (fun _ => ?_) (fun _ => ?_))
    refine rF_use (encode_w l hl) ?_
    rintro _ H1 ⟨rfl, rfl⟩
    repeat' (first | simp (disch := first | omega | assumption | decide) only [go_sem, hm, hz] | refine ifP_in (fun _ => ?_) (fun _ => ?_))
    refine rF_use (puny_r l hl) ?_
    rintro _ H1 ⟨rfl, rfl⟩
    repeat' (first | simp (disch := first | omega | assumption | decide) only [go_sem, hm, hz] | refine ifP_in (fun _ => ?_) (fun _ => ?_))
    refine rF_use (decode_w s hs) ?_
    rintro _ H2 ⟨rfl, hp⟩
    repeat' (first | simp (disch := first | omega | assumption | decide) only [go_sem, hm, hz] | refine ifP_in (fun _ => ?_) (fun _ => ?_))
    refine rF_use (unpuny_r s hs) ?_
    rintro _ H3 ⟨rfl, hp⟩
    repeat' (first | simp (disch := first | omega | assumption | decide) only [go_sem, hm, hz] | refine ifP_in (fun _ => ?_) (fun _ => ?_))
    refine rF_use first_w ?_
    rintro _ H4 ⟨rfl, hp⟩
    repeat' (first | simp (disch := first | omega | assumption | decide) only [go_sem, hm, hz] | refine ifP_in (fun _ => ?_) (fun _ => ?_))
    have hd := dec_len s hs
    refine rF_use (ints_w _ _ (by omega) (by omega)) ?_
    rintro _ H4 ⟨rfl, rfl⟩
    repeat' (first | simp (disch := first | omega | assumption | decide) only [go_sem, hm, hz] | refine ifP_in (fun _ => ?_) (fun _ => ?_))
    refine rF_use (ints_w l l hl hl) ?_
    rintro _ H4 ⟨rfl, rfl⟩
    repeat' (first | simp (disch := first | omega | assumption | decide) only [go_sem, hm, hz] | refine ifP_in (fun _ => ?_) (fun _ => ?_))
  · refine rF_use first_w ?_
    rintro _ H1 ⟨rfl, hp⟩
    repeat' (first | simp (disch := first | omega | assumption | decide) only [go_sem, hm, hz] | refine ifP_in (fun _ => ?_) (fun _ => ?_))
  · refine rF_use first_w ?_
    rintro _ H1 ⟨rfl, hp⟩
    repeat' (first | simp (disch := first | omega | assumption | decide) only [go_sem, hm, hz] | refine ifP_in (fun _ => ?_) (fun _ => ?_))

theorem order_w (a b : List Int) (ha : a.length ≤ 140737488355328) (hb : b.length ≤ 140737488355328) (law : (Puny.encode a).2 = 0 → (Puny.encode b).2 = 0 → ((Puny.encode a).1 = (Puny.encode b).1 ↔ a = b)) : WF Try.prog cfg 6 [.sl (a.map iA), .sl (b.map iA)] H (fun r H' => r = .b true) := by
  have hm : ∀ d, cfg.muF 6 d = (false) := fun _ => rfl
  have hz : ∀ d, cfg.fzF 6 d = (false) := fun _ => rfl
  refine rF_fn rfl rfl Try.func6 rfl ?_
  repeat' (first | simp (disch := first | omega | assumption | decide) only [go_sem, hm, hz] | refine ifP_in (fun _ => ?_) (fun _ => ?_))
  refine rF_use first_w ?_
  rintro _ H1 ⟨rfl, hp⟩
  repeat' (first | simp (disch := first | omega | assumption | decide) only [go_sem, hm, hz] | refine ifP_in (fun _ => ?_) (fun _ => ?_))
  refine rF_use (encode_w a ha) ?_
  rintro _ H1 ⟨rfl, rfl⟩
  repeat' (first | simp (disch := first | omega | assumption | decide) only [go_sem, hm, hz] | refine ifP_in (fun _ => ?_) (fun _ => ?_))
  refine rF_use (encode_w b hb) ?_
  rintro _ H1 ⟨rfl, rfl⟩
  have hea := enc_err (l := a)
  have heb := enc_err (l := b)
  by_cases h1 : (Puny.encode a).2 = 0
  · by_cases h2 : (Puny.encode b).2 = 0
    · have law := law h1 h2
      generalize Puny.encode a = x at *
      generalize Puny.encode b = y at *
      repeat' (first | simp (disch := first | omega | assumption | decide) only [go_sem, hm, hz] | refine ifP_in (fun _ => ?_) (fun _ => ?_))
      refine rF_use first_w ?_
      rintro _ H1 ⟨rfl, hp⟩
      repeat' (first | simp (disch := first | omega | assumption | decide) only [go_sem, hm, hz] | refine ifP_in (fun _ => ?_) (fun _ => ?_))
      refine rF_use (ints_w a b ha hb) ?_
      rintro _ H1 ⟨rfl, rfl⟩
      repeat' (first | simp (disch := first | omega | assumption | decide) only [go_sem, hm, hz] | refine ifP_in (fun _ => ?_) (fun _ => ?_))
      have : decide (x.1 = y.1) = decide (a = b) := decide_eq_decide.2 law
      rw [this]
      simp
    · have heb := heb h2
      generalize Puny.encode a = x at *
      generalize Puny.encode b = y at *
      repeat' (first | simp (disch := first | omega | assumption | decide) only [go_sem, hm, hz, heb] | refine ifP_in (fun _ => ?_) (fun _ => ?_))
      refine rF_use first_w ?_
      rintro _ H1 ⟨rfl, hp⟩
      repeat' (first | simp (disch := first | omega | assumption | decide) only [go_sem, hm, hz, heb] | refine ifP_in (fun _ => ?_) (fun _ => ?_))
  · have hea := hea h1
    generalize Puny.encode a = x at *
    generalize Puny.encode b = y at *
    repeat' (first | simp (disch := first | omega | assumption | decide) only [go_sem, hm, hz, hea] | refine ifP_in (fun _ => ?_) (fun _ => ?_))
    refine rF_use first_w ?_
    rintro _ H1 ⟨rfl, hp⟩
    repeat' (first | simp (disch := first | omega | assumption | decide) only [go_sem, hm, hz, hea] | refine ifP_in (fun _ => ?_) (fun _ => ?_))
    have heb := heb (by assumption)
    rw [heb]
    rfl
end Pu
end Go.Proofs
