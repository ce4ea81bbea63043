/- Walk: the law on labels with signs above 7F. -/
import Derived.Test.YtjihneefmhjllaaIdH
import Derived.Test.YtjihneefmhjllaaIdLaw
set_option linter.unusedVariables false
set_option linter.unusedSimpArgs false
namespace Go.Proofs
open Go.Lv
namespace In
open Pu
variable {H : Heap}
theorem marks_w (l : List Int) (hl : l.length ≤ 140737488355328) : WF Try.prog cfg 4 [.sl (l.map iA)] H (fun r H' => r = .b true) := by
  have hm : ∀ d, cfg.muF 4 d = (false) := fun _ => rfl
  have hz : ∀ d, cfg.fzF 4 d = (false) := fun _ => rfl
  have ht : ∀ d, cfg.tkF 4 d = (false) := fun _ => rfl
  have hr_ : ∀ g, cfg.raw g = (g == 42 || g == 43) := fun _ => rfl
  refine rF_fn rfl rfl Try.func4 rfl ?_
  repeat' (first | simp (disch := first | omega | assumption | decide) only [go_sem, hm, hz, ht, hr_] | refine ifP_in (fun _ => ?_) (fun _ => ?_))
  refine rF_use sprlaw5_first_w ?_
  rintro _ K0 ⟨rfl, rfl⟩
  by_cases h100 : 100 < l.length
  · repeat' (first | simp (disch := first | omega | assumption | decide) only [go_sem, hm, hz, ht, hr_] | refine ifP_in (fun _ => ?_) (fun _ => ?_))
    refine rF_use sprlaw5_first_w ?_
    rintro _ K9 ⟨rfl, rfl⟩
    repeat' (first | simp (disch := first | omega | assumption | decide) only [go_sem, hm, hz, ht, hr_] | refine ifP_in (fun _ => ?_) (fun _ => ?_))
  · repeat' (first | simp (disch := first | omega | assumption | decide) only [go_sem, hm, hz, ht, hr_] | refine ifP_in (fun _ => ?_) (fun _ => ?_))
    refine rL_loop (σ := Nat) (fun i e H' => e 0 = .sl (l.map iA) ∧ e 4 = .i i ∧ i ≤ l.length ∧ e 3 = .b ((l.take i).any fun c => decide (127 < c)) ∧ ∀ c ∈ l.take i, Id.kind c = 1) (fun i => l.length - i) 0 ?_ ?_
    · refine ⟨?_, ?_, by omega, ?_, by simp⟩
      all_goals first | (simp (disch := first | assumption | omega) only [go_sem]; done) | (simp (disch := first | assumption | omega) only [go_sem]; rfl)
    · rintro i e K ⟨g0, g4, i1, g3, i2⟩
      by_cases hi : i < l.length
      · have hix := ix_at hi
        have hany : (l.take (i + 1)).any (fun c => decide (127 < c)) = ((l.take i).any (fun c => decide (127 < c)) || decide (127 < l[i])) := by
          rw [List.take_succ_eq_append_getElem hi, List.any_append]; simp
        repeat' (first | simp (disch := first | omega | assumption | decide) only [go_sem, hm, hz, ht, hr_, g0, g4, g3, hix] | refine ifP_in (fun _ => ?_) (fun _ => ?_))
        refine rF_use (kind_w l[i]) ?_
        rintro _ K1 ⟨rfl, rfl⟩
        by_cases hk : Id.kind l[i] = 1
        · have hnx : ∀ c ∈ l.take (i + 1), Id.kind c = 1 := by
            intro c hc
            rw [List.take_succ_eq_append_getElem hi, List.mem_append] at hc
            rcases hc with hc | hc
            · exact i2 c hc
            · simp at hc; subst hc; exact hk
          cases hp : (l.take i).any (fun c => decide (127 < c)) with
          | true =>
            rw [hp] at g3 hany
            repeat' (first | simp (disch := first | omega | assumption | decide) only [go_sem, hm, hz, ht, hr_, g0, g4, g3, hix, hk] | refine ifP_in (fun _ => ?_) (fun _ => ?_))
            refine ⟨i + 1, ⟨rfl, by omega, ?_, hnx⟩, by omega⟩
            rw [hany]; rfl
          | false =>
            rw [hp] at g3 hany
            repeat' (first | simp (disch := first | omega | assumption | decide) only [go_sem, hm, hz, ht, hr_, g0, g4, g3, hix, hk] | refine ifP_in (fun _ => ?_) (fun _ => ?_))
            refine ⟨i + 1, ⟨rfl, by omega, ?_, hnx⟩, by omega⟩
            rw [hany]; simp
        · repeat' (first | simp (disch := first | omega | assumption | decide) only [go_sem, hm, hz, ht, hr_, g0, g4, g3, hix] | refine ifP_in (fun _ => ?_) (fun _ => ?_))
          refine rF_use sprlaw5_first_w ?_
          rintro _ K9 ⟨rfl, rfl⟩
          repeat' (first | simp (disch := first | omega | assumption | decide) only [go_sem, hm, hz, ht, hr_, g0, g4, g3, hix] | refine ifP_in (fun _ => ?_) (fun _ => ?_))
      · have : i = l.length := by omega
        subst this
        rw [List.take_length] at g3 i2
        have hpa := Id.plain_any i2
        have hml := Id.label_marks i2
        repeat' (first | simp (disch := first | omega | assumption | decide) only [go_sem, hm, hz, ht, hr_, g0, g4, g3] | refine ifP_in (fun _ => ?_) (fun _ => ?_))
        refine rF_use (encode_w l hl) ?_
        rintro _ K2 ⟨rfl, rfl⟩
        repeat' (first | simp (disch := first | omega | assumption | decide) only [go_sem, hm, hz, ht, hr_, g0, g4, g3] | refine ifP_in (fun _ => ?_) (fun _ => ?_))
        refine rF_use (label_w l (by omega)) ?_
        rintro _ K3 ⟨rfl, _⟩
        generalize (l.any fun c => decide (127 < c)) = hi at *
        cases hi with
        | false =>
          repeat' (first | simp (disch := first | omega | assumption | decide) only [go_sem, hm, hz, ht, hr_, g0, g4, g3] | refine ifP_in (fun _ => ?_) (fun _ => ?_))
          refine rF_use sprlaw5_first_w ?_
          rintro _ K9 ⟨rfl, rfl⟩
          repeat' (first | simp (disch := first | omega | assumption | decide) only [go_sem, hm, hz, ht, hr_] | refine ifP_in (fun _ => ?_) (fun _ => ?_))
        | true =>
          have hpl : Id.plain l = false := by rw [hpa]; rfl
          have hml := hml hpl
          have hel := encode_len l
          by_cases he : (Puny.encode l).2 = 0
          · have hml := hml he
            have hmk4 : 4 ≤ l.length → Id.marked l = (decide (ix l 0 = 120) && (decide (ix l 1 = 110) && (decide (ix l 2 = 45) && decide (ix l 3 = 45)))) := fun h4 =>
              Id.marked_at (ix l 0) (ix l 1) (ix l 2) (ix l 3) h4 (by rw [show ix l 0 = l[0] from ix_at (show 0 < l.length by omega)]; exact List.getElem?_eq_getElem _) (by rw [show ix l 1 = l[1] from ix_at (show 1 < l.length by omega)]; exact List.getElem?_eq_getElem _) (by rw [show ix l 2 = l[2] from ix_at (show 2 < l.length by omega)]; exact List.getElem?_eq_getElem _) (by rw [show ix l 3 = l[3] from ix_at (show 3 < l.length by omega)]; exact List.getElem?_eq_getElem _)
            by_cases h4 : 4 ≤ l.length
            · have hmk4 := hmk4 h4
              by_cases c0 : ix l 0 = 120
              · by_cases c1 : ix l 1 = 110
                · by_cases c2 : ix l 2 = 45
                  · by_cases c3 : ix l 3 = 45
                    · repeat' (first | simp (disch := first | omega | assumption | decide) only [go_sem, hm, hz, ht, hr_, g0, g4, g3, he, c0, c1, c2, c3] | refine ifP_in (fun _ => ?_) (fun _ => ?_))
                      refine rF_use sprlaw5_first_w ?_
                      rintro _ K9 ⟨rfl, rfl⟩
                      repeat' (first | simp (disch := first | omega | assumption | decide) only [go_sem, hm, hz, ht, hr_] | refine ifP_in (fun _ => ?_) (fun _ => ?_))
                    · obtain ⟨m1, m2⟩ := hml (by rw [hmk4]; simp [c3])
                      have hx4 : ([120, 110, 45, 45] : List UInt8).length = 4 := rfl
                      unfold Id.XNb at m1 m2
                      generalize (Puny.encode l).1 = p at *
                      simp only [he, m1]
                      repeat' (first | simp (disch := first | omega | assumption | decide) only [go_sem, hm, hz, ht, hr_, g0, g4, g3] | refine ifP_in (fun _ => ?_) (fun _ => ?_))
                      all_goals
                        refine rF_use (signs_w ([120, 110, 45, 45] ++ p) (by rw [List.length_append]; omega)) ?_
                        rintro _ K4 ⟨rfl, rfl⟩
                        repeat' (first | simp (disch := first | omega | assumption | decide) only [go_sem, hm, hz, ht, hr_, g0, g4, g3] | refine ifP_in (fun _ => ?_) (fun _ => ?_))
                        refine rF_use (label_w (Puny.ints ([120, 110, 45, 45] ++ p)) (by simp [Puny.ints]; omega)) ?_
                        rintro _ K5 ⟨rfl, _⟩
                        simp only [m2]
                        repeat' (first | simp (disch := first | omega | assumption | decide) only [go_sem, hm, hz, ht, hr_, g0, g4, g3] | refine ifP_in (fun _ => ?_) (fun _ => ?_))
                        refine rF_use sprlaw5_first_w ?_
                        rintro _ K9 ⟨rfl, rfl⟩
                        repeat' (first | simp (disch := first | omega | assumption | decide) only [go_sem, hm, hz, ht, hr_, g0, g4, g3] | refine ifP_in (fun _ => ?_) (fun _ => ?_))
                  · obtain ⟨m1, m2⟩ := hml (by rw [hmk4]; simp [c2])
                    have hx4 : ([120, 110, 45, 45] : List UInt8).length = 4 := rfl
                    unfold Id.XNb at m1 m2
                    generalize (Puny.encode l).1 = p at *
                    simp only [he, m1]
                    repeat' (first | simp (disch := first | omega | assumption | decide) only [go_sem, hm, hz, ht, hr_, g0, g4, g3] | refine ifP_in (fun _ => ?_) (fun _ => ?_))
                    all_goals
                      refine rF_use (signs_w ([120, 110, 45, 45] ++ p) (by rw [List.length_append]; omega)) ?_
                      rintro _ K4 ⟨rfl, rfl⟩
                      repeat' (first | simp (disch := first | omega | assumption | decide) only [go_sem, hm, hz, ht, hr_, g0, g4, g3] | refine ifP_in (fun _ => ?_) (fun _ => ?_))
                      refine rF_use (label_w (Puny.ints ([120, 110, 45, 45] ++ p)) (by simp [Puny.ints]; omega)) ?_
                      rintro _ K5 ⟨rfl, _⟩
                      simp only [m2]
                      repeat' (first | simp (disch := first | omega | assumption | decide) only [go_sem, hm, hz, ht, hr_, g0, g4, g3] | refine ifP_in (fun _ => ?_) (fun _ => ?_))
                      refine rF_use sprlaw5_first_w ?_
                      rintro _ K9 ⟨rfl, rfl⟩
                      repeat' (first | simp (disch := first | omega | assumption | decide) only [go_sem, hm, hz, ht, hr_, g0, g4, g3] | refine ifP_in (fun _ => ?_) (fun _ => ?_))
                · obtain ⟨m1, m2⟩ := hml (by rw [hmk4]; simp [c1])
                  have hx4 : ([120, 110, 45, 45] : List UInt8).length = 4 := rfl
                  unfold Id.XNb at m1 m2
                  generalize (Puny.encode l).1 = p at *
                  simp only [he, m1]
                  repeat' (first | simp (disch := first | omega | assumption | decide) only [go_sem, hm, hz, ht, hr_, g0, g4, g3] | refine ifP_in (fun _ => ?_) (fun _ => ?_))
                  all_goals
                    refine rF_use (signs_w ([120, 110, 45, 45] ++ p) (by rw [List.length_append]; omega)) ?_
                    rintro _ K4 ⟨rfl, rfl⟩
                    repeat' (first | simp (disch := first | omega | assumption | decide) only [go_sem, hm, hz, ht, hr_, g0, g4, g3] | refine ifP_in (fun _ => ?_) (fun _ => ?_))
                    refine rF_use (label_w (Puny.ints ([120, 110, 45, 45] ++ p)) (by simp [Puny.ints]; omega)) ?_
                    rintro _ K5 ⟨rfl, _⟩
                    simp only [m2]
                    repeat' (first | simp (disch := first | omega | assumption | decide) only [go_sem, hm, hz, ht, hr_, g0, g4, g3] | refine ifP_in (fun _ => ?_) (fun _ => ?_))
                    refine rF_use sprlaw5_first_w ?_
                    rintro _ K9 ⟨rfl, rfl⟩
                    repeat' (first | simp (disch := first | omega | assumption | decide) only [go_sem, hm, hz, ht, hr_, g0, g4, g3] | refine ifP_in (fun _ => ?_) (fun _ => ?_))
              · obtain ⟨m1, m2⟩ := hml (by rw [hmk4]; simp [c0])
                have hx4 : ([120, 110, 45, 45] : List UInt8).length = 4 := rfl
                unfold Id.XNb at m1 m2
                generalize (Puny.encode l).1 = p at *
                simp only [he, m1]
                repeat' (first | simp (disch := first | omega | assumption | decide) only [go_sem, hm, hz, ht, hr_, g0, g4, g3] | refine ifP_in (fun _ => ?_) (fun _ => ?_))
                all_goals
                  refine rF_use (signs_w ([120, 110, 45, 45] ++ p) (by rw [List.length_append]; omega)) ?_
                  rintro _ K4 ⟨rfl, rfl⟩
                  repeat' (first | simp (disch := first | omega | assumption | decide) only [go_sem, hm, hz, ht, hr_, g0, g4, g3] | refine ifP_in (fun _ => ?_) (fun _ => ?_))
                  refine rF_use (label_w (Puny.ints ([120, 110, 45, 45] ++ p)) (by simp [Puny.ints]; omega)) ?_
                  rintro _ K5 ⟨rfl, _⟩
                  simp only [m2]
                  repeat' (first | simp (disch := first | omega | assumption | decide) only [go_sem, hm, hz, ht, hr_, g0, g4, g3] | refine ifP_in (fun _ => ?_) (fun _ => ?_))
                  refine rF_use sprlaw5_first_w ?_
                  rintro _ K9 ⟨rfl, rfl⟩
                  repeat' (first | simp (disch := first | omega | assumption | decide) only [go_sem, hm, hz, ht, hr_, g0, g4, g3] | refine ifP_in (fun _ => ?_) (fun _ => ?_))
            · obtain ⟨m1, m2⟩ := hml (Id.marked_short (by omega))
              have hx4 : ([120, 110, 45, 45] : List UInt8).length = 4 := rfl
              unfold Id.XNb at m1 m2
              generalize (Puny.encode l).1 = p at *
              simp only [he, m1]
              repeat' (first | simp (disch := first | omega | assumption | decide) only [go_sem, hm, hz, ht, hr_, g0, g4, g3] | refine ifP_in (fun _ => ?_) (fun _ => ?_))
              all_goals
                refine rF_use (signs_w ([120, 110, 45, 45] ++ p) (by rw [List.length_append]; omega)) ?_
                rintro _ K4 ⟨rfl, rfl⟩
                repeat' (first | simp (disch := first | omega | assumption | decide) only [go_sem, hm, hz, ht, hr_, g0, g4, g3] | refine ifP_in (fun _ => ?_) (fun _ => ?_))
                refine rF_use (label_w (Puny.ints ([120, 110, 45, 45] ++ p)) (by simp [Puny.ints]; omega)) ?_
                rintro _ K5 ⟨rfl, _⟩
                simp only [m2]
                repeat' (first | simp (disch := first | omega | assumption | decide) only [go_sem, hm, hz, ht, hr_, g0, g4, g3] | refine ifP_in (fun _ => ?_) (fun _ => ?_))
                refine rF_use sprlaw5_first_w ?_
                rintro _ K9 ⟨rfl, rfl⟩
                repeat' (first | simp (disch := first | omega | assumption | decide) only [go_sem, hm, hz, ht, hr_, g0, g4, g3] | refine ifP_in (fun _ => ?_) (fun _ => ?_))
          · repeat' (first | simp (disch := first | omega | assumption | decide) only [go_sem, hm, hz, ht, hr_, g0, g4, g3, he] | refine ifP_in (fun _ => ?_) (fun _ => ?_))
            refine rF_use sprlaw5_first_w ?_
            rintro _ K9 ⟨rfl, rfl⟩
            repeat' (first | simp (disch := first | omega | assumption | decide) only [go_sem, hm, hz, ht, hr_] | refine ifP_in (fun _ => ?_) (fun _ => ?_))
end In
end Go.Proofs
