/- Walk: the law on labels with points between. -/
import Derived.Test.YtjihneefmhjllaaIdI
set_option linter.unusedVariables false
set_option linter.unusedSimpArgs false
namespace Go.Proofs
open Go.Lv
namespace In
open Pu
variable {H : Heap}
abbrev lsA : List (List Int) → AV := fun l => .sl (l.map fun x => AV.sl (x.map iA))
theorem ascii_err (l : List Int) : (Id.toASCII l).2 ≠ 0 ∨ True := .inr trivial
theorem labels_w (l : List (List Int)) (hl : l.length ≤ 140737488355328) (hll : ∀ x ∈ l, x.length ≤ 140737488355328) : WF Try.prog cfg 3 [lsA l] H (fun r H' => r = .b true) := by
  have hm : ∀ d, cfg.muF 3 d = (false) := fun _ => rfl
  have hz : ∀ d, cfg.fzF 3 d = (false) := fun _ => rfl
  have ht : ∀ d, cfg.tkF 3 d = (false) := fun _ => rfl
  have hr_ : ∀ g, cfg.raw g = (g == 42 || g == 43) := fun _ => rfl
  refine rF_fn rfl rfl Try.func3 rfl ?_
  repeat' (first | simp (disch := first | omega | assumption | decide) only [go_sem, hm, hz, ht, hr_] | refine ifP_in (fun _ => ?_) (fun _ => ?_))
  refine rF_use sprlaw5_first_w ?_
  rintro _ K0 ⟨rfl, rfl⟩
  by_cases hsz : l.length < 1 ∨ 60 < l.length
  · by_cases h1 : l.length < 1
    · repeat' (first | simp (disch := first | omega | assumption | decide) only [go_sem, hm, hz, ht, hr_] | refine ifP_in (fun _ => ?_) (fun _ => ?_))
      refine rF_use sprlaw5_first_w ?_
      rintro _ K9 ⟨rfl, rfl⟩
      repeat' (first | simp (disch := first | omega | assumption | decide) only [go_sem, hm, hz, ht, hr_] | refine ifP_in (fun _ => ?_) (fun _ => ?_))
    · repeat' (first | simp (disch := first | omega | assumption | decide) only [go_sem, hm, hz, ht, hr_] | refine ifP_in (fun _ => ?_) (fun _ => ?_))
      refine rF_use sprlaw5_first_w ?_
      rintro _ K9 ⟨rfl, rfl⟩
      repeat' (first | simp (disch := first | omega | assumption | decide) only [go_sem, hm, hz, ht, hr_] | refine ifP_in (fun _ => ?_) (fun _ => ?_))
  · repeat' (first | simp (disch := first | omega | assumption | decide) only [go_sem, hm, hz, ht, hr_] | refine ifP_in (fun _ => ?_) (fun _ => ?_))
    refine rL_loop (σ := Nat) (fun i e H' => e 0 = lsA l ∧ e 6 = .i i ∧ i ≤ l.length ∧ e 3 = .sl ((Sp.join [46] (l.take i)).map iA) ∧ e 4 = .str (Sp.join [46] ((l.take i).map fun x => (Id.label x).1)) ∧ e 5 = .b (((l.take i).all fun x => decide ((Id.label x).2 = 0))) ∧ ∀ x ∈ l.take i, x.length ≤ 60 ∧ ∀ c ∈ x, Id.kind c = 1 ∧ c ≠ 46) (fun i => l.length - i) 0 ?_ ?_
    · refine ⟨?_, ?_, by omega, ?_, ?_, ?_, by simp⟩
      all_goals first | (simp (disch := first | assumption | omega) only [go_sem]; done) | (simp (disch := first | assumption | omega) only [go_sem]; rfl)
    · rintro i e K ⟨g0, g6, i1, g3, g4, g5, i2⟩
      by_cases hi : i < l.length
      · have hix := ix_at hi
        have hja : Sp.join [46] (l.take (i + 1)) = if l.take i = [] then l[i] else Sp.join [46] (l.take i) ++ [46] ++ l[i] := by
          rw [List.take_succ_eq_append_getElem hi, Sp.join_snoc]
        have hjw : Sp.join [46] ((l.take (i + 1)).map fun x => (Id.label x).1) = if l.take i = [] then (Id.label l[i]).1 else Sp.join [46] ((l.take i).map fun x => (Id.label x).1) ++ [46] ++ (Id.label l[i]).1 := by
          rw [List.take_succ_eq_append_getElem hi, List.map_append, List.map_cons, List.map_nil, Sp.join_snoc]
          simp only [List.map_eq_nil_iff]
        have hga : ((l.take (i + 1)).all fun x => decide ((Id.label x).2 = 0)) = (((l.take i).all fun x => decide ((Id.label x).2 = 0)) && decide ((Id.label l[i]).2 = 0)) := by
          rw [List.take_succ_eq_append_getElem hi, List.all_append]; simp
        have hnx : l[i].length ≤ 60 → (∀ c ∈ l[i], Id.kind c = 1 ∧ c ≠ 46) → ∀ x ∈ l.take (i + 1), x.length ≤ 60 ∧ ∀ c ∈ x, Id.kind c = 1 ∧ c ≠ 46 := by
          intro h1 h2 x hx
          rw [List.take_succ_eq_append_getElem hi, List.mem_append] at hx
          rcases hx with hx | hx
          · exact i2 x hx
          · simp at hx; subst hx; exact ⟨h1, h2⟩
        have hti : (l.take i).length ≤ 60 := by simp; omega
        have hl1 : (Sp.join [46] (l.take i)).length ≤ (l.take i).length * (60 + [(46 : Int)].length) := Sp.join_len_i [46] 60 _ fun x hx => (i2 x hx).1
        have hl2 : (Sp.join [46] ((l.take i).map fun x => (Id.label x).1)).length ≤ ((l.take i).map fun x => (Id.label x).1).length * (3164 + [(46 : UInt8)].length) := Sp.join_len_i [46] 3164 _ (by
          intro y hy
          obtain ⟨x, hx, rfl⟩ := List.mem_map.1 hy
          have := label_len x
          have := (i2 x hx).1
          omega)
        simp only [List.length_singleton, List.length_map] at hl1 hl2
        have hxl := hll _ (List.getElem_mem hi)
        have hem : l.take i = [] ↔ i = 0 := by
          constructor
          · intro h; have := congrArg List.length h; simp at this; rcases this with h | h
            · exact h
            · rw [h] at hi; simp at hi
          · rintro rfl; rfl
        simp only [hem] at hja hjw
        have h461 : ([46] : List UInt8).length = 1 := rfl
        generalize hA : Sp.join [46] (l.take i) = A at *
        generalize hW : Sp.join [46] ((l.take i).map fun x => (Id.label x).1) = W at *
        generalize l[i] = x at *
        generalize hG : ((l.take i).all fun x => decide ((Id.label x).2 = 0)) = G at *
        by_cases h0 : 0 < i
        · rw [if_neg (by omega)] at hja hjw
          repeat' (first | simp (disch := first | omega | assumption | decide) only [go_sem, hm, hz, ht, hr_, g0, g6, g3, g4, g5, hix] | refine ifP_in (fun _ => ?_) (fun _ => ?_))
          · refine rF_use sprlaw5_first_w ?_
            rintro _ K9 ⟨rfl, rfl⟩
            repeat' (first | simp (disch := first | omega | assumption | decide) only [go_sem, hm, hz, ht, hr_] | refine ifP_in (fun _ => ?_) (fun _ => ?_))
          · obtain ⟨A', hA'⟩ : ∃ A', A' = A ++ [46] := ⟨_, rfl⟩
            obtain ⟨W', hW'⟩ : ∃ W', W' = W ++ [46] := ⟨_, rfl⟩
            have hA2 : A'.length ≤ 3661 := by rw [hA', List.length_append, List.length_singleton]; omega
            have hW2 : W'.length ≤ 200000 := by rw [hW', List.length_append, List.length_singleton]; omega
            rw [← hA'] at hja
            rw [← hW'] at hjw
            refine rL_loop (σ := Nat) (fun k e H' => e 0 = lsA l ∧ e 6 = .i i ∧ e 3 = .sl (A'.map iA) ∧ e 4 = .str W' ∧ e 5 = .b G ∧ e 7 = .i k ∧ k ≤ x.length ∧ ∀ c ∈ x.take k, Id.kind c = 1 ∧ c ≠ 46) (fun k => x.length - k) 0 ?_ ?_
            · refine ⟨?_, ?_, ?_, ?_, ?_, ?_, by omega, by simp⟩
              all_goals first | (simp (disch := first | assumption | omega) only [go_sem, g0, g6, g3, g4, g5]; done) | (simp (disch := first | assumption | omega) only [go_sem, g0, g6, g3, g4, g5]; first | rfl | (rw [hA']; done) | (rw [hW']; done) | (rw [hA']; rfl) | (rw [hW']; rfl) | omega) | (simp (disch := first | assumption | omega) only [go_sem, g0, g6, g3, g4, g5]; subst hA'; rfl) | (simp (disch := first | assumption | omega) only [go_sem, g0, g6, g3, g4, g5]; subst hW'; rfl)
            · clear g0 g6 g3 g4 g5
              rintro k e K ⟨g0, g6, g3, g4, g5, g7, k1, k2⟩
              by_cases hk : k < x.length
              · have hxx := ix_at hk
                repeat' (first | simp (disch := first | omega | assumption | decide) only [go_sem, hm, hz, ht, hr_, g0, g6, g3, g4, g5, g7, hix, hxx] | refine ifP_in (fun _ => ?_) (fun _ => ?_))
                refine rF_use (kind_w x[k]) ?_
                rintro _ K1 ⟨rfl, rfl⟩
                by_cases hk1 : Id.kind x[k] = 1
                · by_cases hk2 : x[k] = 46
                  · repeat' (first | simp (disch := first | omega | assumption | decide) only [go_sem, hm, hz, ht, hr_, g0, g6, g3, g4, g5, g7, hix, hxx, hk1, hk2] | refine ifP_in (fun _ => ?_) (fun _ => ?_))
                    refine rF_use sprlaw5_first_w ?_
                    rintro _ K9 ⟨rfl, rfl⟩
                    repeat' (first | simp (disch := first | omega | assumption | decide) only [go_sem, hm, hz, ht, hr_] | refine ifP_in (fun _ => ?_) (fun _ => ?_))
                  · repeat' (first | simp (disch := first | omega | assumption | decide) only [go_sem, hm, hz, ht, hr_, g0, g6, g3, g4, g5, g7, hix, hxx, hk1] | refine ifP_in (fun _ => ?_) (fun _ => ?_))
                    refine ⟨k + 1, ⟨rfl, by omega, ?_⟩, by omega⟩
                    intro c hc
                    rw [List.take_succ_eq_append_getElem hk, List.mem_append] at hc
                    rcases hc with hc | hc
                    · exact k2 c hc
                    · simp at hc; subst hc; exact ⟨hk1, hk2⟩
                · repeat' (first | simp (disch := first | omega | assumption | decide) only [go_sem, hm, hz, ht, hr_, g0, g6, g3, g4, g5, g7, hix, hxx] | refine ifP_in (fun _ => ?_) (fun _ => ?_))
                  refine rF_use sprlaw5_first_w ?_
                  rintro _ K9 ⟨rfl, rfl⟩
                  repeat' (first | simp (disch := first | omega | assumption | decide) only [go_sem, hm, hz, ht, hr_] | refine ifP_in (fun _ => ?_) (fun _ => ?_))
              · have : k = x.length := by omega
                subst this
                rw [List.take_length] at k2
                have hnx := hnx (by omega) k2
                have hlx := label_len x
                repeat' (first | simp (disch := first | omega | assumption | decide) only [go_sem, hm, hz, ht, hr_, g0, g6, g3, g4, g5, g7, hix] | refine ifP_in (fun _ => ?_) (fun _ => ?_))
                refine rF_use (label_w x (by omega)) ?_
                rintro _ K3 ⟨rfl, _⟩
                generalize (Id.label x).1 = t at *
                generalize (Id.label x).2 = er at *
                cases G with
                | false =>
                  rw [Bool.false_and] at hga
                  repeat' (first | simp (disch := first | omega | assumption | decide) only [go_sem, hm, hz, ht, hr_, g0, g6, g3, g4, g5, g7, hix] | refine ifP_in (fun _ => ?_) (fun _ => ?_))
                  refine ⟨i + 1, ⟨rfl, by omega, ?_, ?_, ?_, hnx⟩, by omega⟩
                  · rw [hja]
                  · rw [hjw]
                  · rw [hga]
                | true =>
                  rw [Bool.true_and] at hga
                  repeat' (first | simp (disch := first | omega | assumption | decide) only [go_sem, hm, hz, ht, hr_, g0, g6, g3, g4, g5, g7, hix] | refine ifP_in (fun _ => ?_) (fun _ => ?_))
                  refine ⟨i + 1, ⟨rfl, by omega, ?_, ?_, ?_, hnx⟩, by omega⟩
                  · rw [hja]
                  · rw [hjw]
                  · rw [hga]
        · have hi0 : i = 0 := by omega
          rw [if_pos hi0] at hja hjw
          have hA0 : A = [] := by rw [← hA, hi0]; rfl
          have hW0 : W = [] := by rw [← hW, hi0]; rfl
          subst hA0 hW0
          repeat' (first | simp (disch := first | omega | assumption | decide) only [go_sem, hm, hz, ht, hr_, g0, g6, g3, g4, g5, hix] | refine ifP_in (fun _ => ?_) (fun _ => ?_))
          · refine rF_use sprlaw5_first_w ?_
            rintro _ K9 ⟨rfl, rfl⟩
            repeat' (first | simp (disch := first | omega | assumption | decide) only [go_sem, hm, hz, ht, hr_] | refine ifP_in (fun _ => ?_) (fun _ => ?_))
          · obtain ⟨A', hA'⟩ : ∃ A', A' = ([] : List Int) := ⟨_, rfl⟩
            obtain ⟨W', hW'⟩ : ∃ W', W' = ([] : List UInt8) := ⟨_, rfl⟩
            have hA2 : A'.length ≤ 3661 := by rw [hA']; simp
            have hW2 : W'.length ≤ 200000 := by rw [hW']; simp
            have hja : Sp.join [46] (l.take (i + 1)) = A' ++ x := by rw [hA']; exact hja
            have hjw : Sp.join [46] ((l.take (i + 1)).map fun x => (Id.label x).1) = W' ++ (Id.label x).1 := by rw [hW']; exact hjw
            refine rL_loop (σ := Nat) (fun k e H' => e 0 = lsA l ∧ e 6 = .i i ∧ e 3 = .sl (A'.map iA) ∧ e 4 = .str W' ∧ e 5 = .b G ∧ e 7 = .i k ∧ k ≤ x.length ∧ ∀ c ∈ x.take k, Id.kind c = 1 ∧ c ≠ 46) (fun k => x.length - k) 0 ?_ ?_
            · refine ⟨?_, ?_, ?_, ?_, ?_, ?_, by omega, by simp⟩
              all_goals first | (simp (disch := first | assumption | omega) only [go_sem, g0, g6, g3, g4, g5]; done) | (simp (disch := first | assumption | omega) only [go_sem, g0, g6, g3, g4, g5]; first | rfl | (rw [hA']; done) | (rw [hW']; done) | (rw [hA']; rfl) | (rw [hW']; rfl) | omega) | (simp (disch := first | assumption | omega) only [go_sem, g0, g6, g3, g4, g5]; subst hA'; rfl) | (simp (disch := first | assumption | omega) only [go_sem, g0, g6, g3, g4, g5]; subst hW'; rfl)
            · clear g0 g6 g3 g4 g5
              rintro k e K ⟨g0, g6, g3, g4, g5, g7, k1, k2⟩
              by_cases hk : k < x.length
              · have hxx := ix_at hk
                repeat' (first | simp (disch := first | omega | assumption | decide) only [go_sem, hm, hz, ht, hr_, g0, g6, g3, g4, g5, g7, hix, hxx] | refine ifP_in (fun _ => ?_) (fun _ => ?_))
                refine rF_use (kind_w x[k]) ?_
                rintro _ K1 ⟨rfl, rfl⟩
                by_cases hk1 : Id.kind x[k] = 1
                · by_cases hk2 : x[k] = 46
                  · repeat' (first | simp (disch := first | omega | assumption | decide) only [go_sem, hm, hz, ht, hr_, g0, g6, g3, g4, g5, g7, hix, hxx, hk1, hk2] | refine ifP_in (fun _ => ?_) (fun _ => ?_))
                    refine rF_use sprlaw5_first_w ?_
                    rintro _ K9 ⟨rfl, rfl⟩
                    repeat' (first | simp (disch := first | omega | assumption | decide) only [go_sem, hm, hz, ht, hr_] | refine ifP_in (fun _ => ?_) (fun _ => ?_))
                  · repeat' (first | simp (disch := first | omega | assumption | decide) only [go_sem, hm, hz, ht, hr_, g0, g6, g3, g4, g5, g7, hix, hxx, hk1] | refine ifP_in (fun _ => ?_) (fun _ => ?_))
                    refine ⟨k + 1, ⟨rfl, by omega, ?_⟩, by omega⟩
                    intro c hc
                    rw [List.take_succ_eq_append_getElem hk, List.mem_append] at hc
                    rcases hc with hc | hc
                    · exact k2 c hc
                    · simp at hc; subst hc; exact ⟨hk1, hk2⟩
                · repeat' (first | simp (disch := first | omega | assumption | decide) only [go_sem, hm, hz, ht, hr_, g0, g6, g3, g4, g5, g7, hix, hxx] | refine ifP_in (fun _ => ?_) (fun _ => ?_))
                  refine rF_use sprlaw5_first_w ?_
                  rintro _ K9 ⟨rfl, rfl⟩
                  repeat' (first | simp (disch := first | omega | assumption | decide) only [go_sem, hm, hz, ht, hr_] | refine ifP_in (fun _ => ?_) (fun _ => ?_))
              · have : k = x.length := by omega
                subst this
                rw [List.take_length] at k2
                have hnx := hnx (by omega) k2
                have hlx := label_len x
                repeat' (first | simp (disch := first | omega | assumption | decide) only [go_sem, hm, hz, ht, hr_, g0, g6, g3, g4, g5, g7, hix] | refine ifP_in (fun _ => ?_) (fun _ => ?_))
                refine rF_use (label_w x (by omega)) ?_
                rintro _ K3 ⟨rfl, _⟩
                generalize (Id.label x).1 = t at *
                generalize (Id.label x).2 = er at *
                cases G with
                | false =>
                  rw [Bool.false_and] at hga
                  repeat' (first | simp (disch := first | omega | assumption | decide) only [go_sem, hm, hz, ht, hr_, g0, g6, g3, g4, g5, g7, hix] | refine ifP_in (fun _ => ?_) (fun _ => ?_))
                  refine ⟨i + 1, ⟨rfl, by omega, ?_, ?_, ?_, hnx⟩, by omega⟩
                  · rw [hja]
                  · rw [hjw]
                  · rw [hga]
                | true =>
                  rw [Bool.true_and] at hga
                  repeat' (first | simp (disch := first | omega | assumption | decide) only [go_sem, hm, hz, ht, hr_, g0, g6, g3, g4, g5, g7, hix] | refine ifP_in (fun _ => ?_) (fun _ => ?_))
                  refine ⟨i + 1, ⟨rfl, by omega, ?_, ?_, ?_, hnx⟩, by omega⟩
                  · rw [hja]
                  · rw [hjw]
                  · rw [hga]
      · have : i = l.length := by omega
        subst this
        rw [List.take_length] at g3 g4 g5 i2
        have hne : l ≠ [] := by intro h; rw [h] at hsz; simp at hsz
        have hal := Id.ascii_labels hne fun x hx => (i2 x hx).2
        have hbad := Id.labels_bad (l := l)
        have hgood : (l.all fun x => decide ((Id.label x).2 = 0)) = decide (¬ ∃ x ∈ l, (Id.label x).2 ≠ 0) := by
          exact Bool.eq_iff_iff.2 (by simp)
        have hl1 : (Sp.join [46] l).length ≤ l.length * (60 + [(46 : Int)].length) := Sp.join_len_i [46] 60 _ fun x hx => (i2 x hx).1
        simp only [List.length_singleton] at hl1
        repeat' (first | simp (disch := first | omega | assumption | decide) only [go_sem, hm, hz, ht, hr_, g0, g6, g3, g4, g5] | refine ifP_in (fun _ => ?_) (fun _ => ?_))
        refine rF_use (toASCII_w (Sp.join [46] l) (by omega)) ?_
        rintro _ K3 ⟨rfl, _⟩
        rw [hal]
        generalize Sp.join [46] l = A at *
        generalize Sp.join [46] (l.map fun x => (Id.label x).1) = W at *
        generalize (l.all fun x => decide ((Id.label x).2 = 0)) = G at *
        by_cases hA : 256 < A.length
        · rw [if_pos hA]
          repeat' (first | simp (disch := first | omega | assumption | decide) only [go_sem, hm, hz, ht, hr_, g0, g6, g3, g4, g5] | refine ifP_in (fun _ => ?_) (fun _ => ?_))
          refine rF_use sprlaw5_first_w ?_
          rintro _ K9 ⟨rfl, rfl⟩
          repeat' (first | simp (disch := first | omega | assumption | decide) only [go_sem, hm, hz, ht, hr_, g0, g6, g3, g4, g5] | refine ifP_in (fun _ => ?_) (fun _ => ?_))
        · rw [if_neg hA]
          by_cases hg : ∃ x ∈ l, (Id.label x).2 ≠ 0
          · have hbad := hbad hg
            rw [if_pos hg]
            rw [decide_eq_false (by simpa using hg)] at hgood
            subst hgood
            generalize (Id.labels l).2 = er at *
            have hd : decide (er = 0) = false := decide_eq_false hbad
            repeat' (first | simp (disch := first | omega | assumption | decide) only [go_sem, hm, hz, ht, hr_, g0, g6, g3, g4, g5, hd] | refine ifP_in (fun _ => ?_) (fun _ => ?_))
            refine rF_use sprlaw5_first_w ?_
            rintro _ K9 ⟨rfl, rfl⟩
            repeat' (first | simp (disch := first | omega | assumption | decide) only [go_sem, hm, hz, ht, hr_, g0, g6, g3, g4, g5, hd] | refine ifP_in (fun _ => ?_) (fun _ => ?_))
          · rw [if_neg hg]
            rw [decide_eq_true hg] at hgood
            subst hgood
            by_cases hW : 253 < W.length
            · rw [if_pos hW]
              have hd : decide ((W.length : Int) ≤ 253) = false := decide_eq_false (by omega)
              repeat' (first | simp (disch := first | omega | assumption | decide) only [go_sem, hm, hz, ht, hr_, g0, g6, g3, g4, g5, hd] | refine ifP_in (fun _ => ?_) (fun _ => ?_))
              refine rF_use sprlaw5_first_w ?_
              rintro _ K9 ⟨rfl, rfl⟩
              repeat' (first | simp (disch := first | omega | assumption | decide) only [go_sem, hm, hz, ht, hr_, g0, g6, g3, g4, g5, hd] | refine ifP_in (fun _ => ?_) (fun _ => ?_))
            · rw [if_neg hW]
              have hd : decide ((W.length : Int) ≤ 253) = true := decide_eq_true (by omega)
              repeat' (first | simp (disch := first | omega | assumption | decide) only [go_sem, hm, hz, ht, hr_, g0, g6, g3, g4, g5, hd] | refine ifP_in (fun _ => ?_) (fun _ => ?_))
              refine rF_use sprlaw5_first_w ?_
              rintro _ K9 ⟨rfl, rfl⟩
              repeat' (first | simp (disch := first | omega | assumption | decide) only [go_sem, hm, hz, ht, hr_, g0, g6, g3, g4, g5, hd] | refine ifP_in (fun _ => ?_) (fun _ => ?_))
end In
end Go.Proofs
