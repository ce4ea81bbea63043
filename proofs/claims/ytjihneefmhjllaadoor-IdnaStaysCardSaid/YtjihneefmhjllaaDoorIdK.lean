/- Walks: the laws on names. -/
import Derived.Test.YtjihneefmhjllaaDoorIdRf
import Derived.Test.YtjihneefmhjllaaDoorIdStay
set_option linter.unusedVariables false
set_option linter.unusedSimpArgs false
namespace Go.Proofs
open Go.Lv
namespace In
open Pu Ut
variable {H : Heap}
theorem first_e {Q : K (AV → Heap → Prop)} : @rF Tryd.prog cfg 5 [] H Q = Q.v (.b true) H := rF_eq sprlaw5_first_w
theorem toUni_len (s : List UInt8) (hs : s.length ≤ 5000) : (Id.toUni s).length ≤ 30000000 := by
  have hsl := Sp.split_len_le (c := 46) s
  have hsp := Sp.split_part_len (c := 46) s
  have := joined_len (Sp.split 46 s) (Sp.split 46 s).length (fun x hx => by have := hsp x hx; omega) (by omega)
  rw [List.take_length] at this
  unfold Id.toUni
  omega
theorem names_w (l : List Int) (s : List UInt8) (hl : l.length ≤ 140737488355328) (hs : s.length ≤ 140737488355328) : WF Tryd.prog cfg 3 [.sl (l.map iA), .str s] H (fun r H' => r = .b true) := by
  have hm : ∀ d, cfg.muF 3 d = (false) := fun _ => rfl
  have hz : ∀ d, cfg.fzF 3 d = (false) := fun _ => rfl
  have ht : ∀ d, cfg.tkF 3 d = (false) := fun _ => rfl
  have hr_ : ∀ g, cfg.raw g = (g == 60 || g == 63) := fun _ => rfl
  refine rF_fn rfl rfl Tryd.func3 rfl ?_
  by_cases h1 : 300 < l.length
  · repeat' (first | simp (disch := first | omega | assumption | decide) only [go_sem, hm, hz, ht, hr_, first_e] | refine ifP_in (fun _ => ?_) (fun _ => ?_))
  · by_cases h2 : 5000 < s.length
    · repeat' (first | simp (disch := first | omega | assumption | decide) only [go_sem, hm, hz, ht, hr_, first_e] | refine ifP_in (fun _ => ?_) (fun _ => ?_))
    · repeat' (first | simp (disch := first | omega | assumption | decide) only [go_sem, hm, hz, ht, hr_, first_e] | refine ifP_in (fun _ => ?_) (fun _ => ?_))
      refine rF_use (copyInts_w l (by omega)) ?_
      rintro _ K1 ⟨rfl, rfl⟩
      repeat' (first | simp (disch := first | omega | assumption | decide) only [go_sem, hm, hz, ht, hr_, first_e] | refine ifP_in (fun _ => ?_) (fun _ => ?_))
      refine rF_use (toASCII_w l hl) ?_
      rintro _ K2 ⟨rfl, _⟩
      repeat' (first | simp (disch := first | omega | assumption | decide) only [go_sem, hm, hz, ht, hr_, first_e] | refine ifP_in (fun _ => ?_) (fun _ => ?_))
      refine rF_use (toASCII_r l hl) ?_
      rintro _ K3 ⟨rfl, _⟩
      repeat' (first | simp (disch := first | omega | assumption | decide) only [go_sem, hm, hz, ht, hr_, first_e] | refine ifP_in (fun _ => ?_) (fun _ => ?_))
      refine rF_use (label_w l (by omega)) ?_
      rintro _ K4 ⟨rfl, _⟩
      repeat' (first | simp (disch := first | omega | assumption | decide) only [go_sem, hm, hz, ht, hr_, first_e] | refine ifP_in (fun _ => ?_) (fun _ => ?_))
      refine rF_use (label_r l (by omega)) ?_
      rintro _ K5 ⟨rfl, _⟩
      repeat' (first | simp (disch := first | omega | assumption | decide) only [go_sem, hm, hz, ht, hr_, first_e] | refine ifP_in (fun _ => ?_) (fun _ => ?_))
      refine rF_use (toUni_w s (by omega)) ?_
      rintro _ K6 rfl
      repeat' (first | simp (disch := first | omega | assumption | decide) only [go_sem, hm, hz, ht, hr_, first_e] | refine ifP_in (fun _ => ?_) (fun _ => ?_))
      refine rF_use (toUni_r s (by omega)) ?_
      rintro _ K7 rfl
      have hul := toUni_len s (by omega)
      repeat' (first | simp (disch := first | omega | assumption | decide) only [go_sem, hm, hz, ht, hr_, first_e] | refine ifP_in (fun _ => ?_) (fun _ => ?_))
      refine rF_use (ints_w _ _ (by omega) (by omega)) ?_
      rintro _ K8 ⟨rfl, rfl⟩
      rw [decide_eq_true rfl]
      repeat' (first | simp (disch := first | omega | assumption | decide) only [go_sem, hm, hz, ht, hr_, first_e] | refine ifP_in (fun _ => ?_) (fun _ => ?_))
      refine rF_use (ints_w _ _ hl hl) ?_
      rintro _ K9 ⟨rfl, rfl⟩
      rw [decide_eq_true rfl]
      repeat' (first | simp (disch := first | omega | assumption | decide) only [go_sem, hm, hz, ht, hr_, first_e] | refine ifP_in (fun _ => ?_) (fun _ => ?_))
theorem stays_w (l : List Int) (hl : l.length ≤ 140737488355328) : WF Tryd.prog cfg 4 [.sl (l.map iA)] H (fun r H' => r = .b true) := by
  have hm : ∀ d, cfg.muF 4 d = (false) := fun _ => rfl
  have hz : ∀ d, cfg.fzF 4 d = (false) := fun _ => rfl
  have ht : ∀ d, cfg.tkF 4 d = (false) := fun _ => rfl
  have hr_ : ∀ g, cfg.raw g = (g == 60 || g == 63) := fun _ => rfl
  refine rF_fn rfl rfl Tryd.func4 rfl ?_
  by_cases h1 : 300 < l.length
  · repeat' (first | simp (disch := first | omega | assumption | decide) only [go_sem, hm, hz, ht, hr_, first_e] | refine ifP_in (fun _ => ?_) (fun _ => ?_))
  · repeat' (first | simp (disch := first | omega | assumption | decide) only [go_sem, hm, hz, ht, hr_, first_e] | refine ifP_in (fun _ => ?_) (fun _ => ?_))
    refine rF_use (toASCII_w l hl) ?_
    rintro _ K2 ⟨rfl, _⟩
    by_cases he : (Id.toASCII l).2 = 0
    · obtain ⟨a1, a2, a3, a4⟩ := Id.again he
      rw [he]
      generalize (Id.toASCII l).1 = s at *
      repeat' (first | simp (disch := first | omega | assumption | decide) only [go_sem, hm, hz, ht, hr_, first_e] | refine ifP_in (fun _ => ?_) (fun _ => ?_))
      refine rL_loop (σ := Nat) (fun i e H' => e 3 = .str s ∧ e 5 = .i i ∧ i ≤ s.length) (fun i => s.length - i) 0 ?_ ?_
      · refine ⟨?_, ?_, by omega⟩
        all_goals first | (simp (disch := first | assumption | omega) only [go_sem]; done) | (simp (disch := first | assumption | omega) only [go_sem]; rfl)
      · rintro i e K ⟨g3, g5, i1⟩
        by_cases hi : i < s.length
        · have hix := ix_at hi
          obtain ⟨b1, b2⟩ := a2 _ (List.getElem_mem hi)
          repeat' (first | simp (disch := first | omega | assumption | decide) only [go_sem, hm, hz, ht, hr_, g3, g5, hix] | refine ifP_in (fun _ => ?_) (fun _ => ?_))
          all_goals exact ⟨i + 1, ⟨rfl, by omega⟩, by omega⟩
        · have hul := toUni_len s (by omega)
          repeat' (first | simp (disch := first | omega | assumption | decide) only [go_sem, hm, hz, ht, hr_, g3, g5, first_e] | refine ifP_in (fun _ => ?_) (fun _ => ?_))
          refine rF_use (signs_w s (by omega)) ?_
          rintro _ K3 ⟨rfl, rfl⟩
          repeat' (first | simp (disch := first | omega | assumption | decide) only [go_sem, hm, hz, ht, hr_, g3, g5, first_e] | refine ifP_in (fun _ => ?_) (fun _ => ?_))
          refine rF_use (toASCII_w (Puny.ints s) (by simp [Puny.ints]; omega)) ?_
          rintro _ K4 ⟨rfl, _⟩
          rw [a3]
          have hss : (s ≠ s) = False := by simp
          repeat' (first | simp (disch := first | omega | assumption | decide) only [go_sem, hm, hz, ht, hr_, g3, g5, first_e, hss] | refine ifP_in (fun _ => ?_) (fun _ => ?_))
          refine rF_use (toUni_w s (by omega)) ?_
          rintro _ K5 rfl
          generalize Id.toUni s = u at *
          repeat' (first | simp (disch := first | omega | assumption | decide) only [go_sem, hm, hz, ht, hr_, g3, g5, first_e] | refine ifP_in (fun _ => ?_) (fun _ => ?_))
          refine rF_use (toASCII_w u (by omega)) ?_
          rintro _ K6 ⟨rfl, _⟩
          by_cases hu : u.length ≤ 256
          · rw [a4 hu]
            repeat' (first | simp (disch := first | omega | assumption | decide) only [go_sem, hm, hz, ht, hr_, g3, g5, first_e] | refine ifP_in (fun _ => ?_) (fun _ => ?_))
          · repeat' (first | simp (disch := first | omega | assumption | decide) only [go_sem, hm, hz, ht, hr_, g3, g5, first_e] | refine ifP_in (fun _ => ?_) (fun _ => ?_))
    · have hb := Id.ascii_bad he
      rw [hb]
      repeat' (first | simp (disch := first | omega | assumption | decide) only [go_sem, hm, hz, ht, hr_, first_e] | refine ifP_in (fun _ => ?_) (fun _ => ?_))
end In
end Go.Proofs
