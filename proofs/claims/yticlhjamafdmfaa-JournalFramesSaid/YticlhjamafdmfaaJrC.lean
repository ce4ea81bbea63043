/- Walks: journal.Frame, next, Scan. -/
import Derived.Test.YticlhjamafdmfaaJrB
set_option linter.unusedVariables false
set_option linter.unusedSimpArgs false
namespace Go.Proofs
open Go.Lv
namespace Jn
variable {H : Heap}

theorem Frame_w (p : List UInt8) (hp : p.length < 1000000) : WF Try.prog cfg 13 [.sl (p.map byteA)] H (fun r H' => r = (if 60000 < p.length then .tup [.sl [], .i 3] else .tup [.sl ((Jr.frame p).map byteA), .i 0]) ∧ H <+: H') := by
  have hm : ∀ d, cfg.muF 13 d = (false) := fun _ => rfl
  have hz : ∀ d, cfg.fzF 13 d = (false) := fun _ => rfl
  have ht : ∀ d, cfg.tkF 13 d = (false) := fun _ => rfl
  have hr_ : ∀ g, cfg.raw g = (g == 58 || g == 69) := fun _ => rfl
  refine rF_fn rfl rfl Try.func13 rfl ?_
  repeat' (first | simp (disch := first | omega | assumption | decide) only [go_sem, hm, hz, ht, hr_] | refine ifP_in (fun _ => ?_) (fun _ => ?_))
  · rw [if_pos (by omega)]; exact ⟨rfl, List.prefix_refl _⟩
  · refine rF_use (frame_w p (by omega)) ?_
    rintro _ H1 ⟨rfl, hp1⟩
    repeat' (first | simp (disch := first | omega | assumption | decide) only [go_sem, hm, hz, ht, hr_] | refine ifP_in (fun _ => ?_) (fun _ => ?_))
    rw [if_neg (by omega)]
    exact ⟨rfl, hp1⟩

theorem Equal_w (a b : List UInt8) {x y : AV} (hx : x = .sl (a.map byteA)) (hy : y = .sl (b.map byteA)) : WF Try.prog cfg 94 [x, y] H (fun r H' => r = .b (decide (a = b)) ∧ H' = H) := by
  subst hx hy
  have hm : ∀ d, cfg.muF 94 d = (false) := fun _ => rfl
  have hz : ∀ d, cfg.fzF 94 d = (false) := fun _ => rfl
  have ht : ∀ d, cfg.tkF 94 d = (false) := fun _ => rfl
  have hr_ : ∀ g, cfg.raw g = (g == 58 || g == 69) := fun _ => rfl
  refine rF_fn rfl rfl Try.func94 rfl ?_
  repeat' (first | simp (disch := first | omega | assumption | decide) only [go_sem, hm, hz, ht, hr_] | refine ifP_in (fun _ => ?_) (fun _ => ?_))

theorem get2_lt (b : List UInt8) : Jr.get (b.take 2) < 65536 := by
  match b with
  | [] => simp [Jr.get]
  | [x] => have := x.toNat_lt; simp [Jr.get]; omega
  | x :: y :: l => have := x.toNat_lt; have := y.toNat_lt; simp [Jr.get]; omega

theorem next_w (b : List UInt8) (hb : b.length < 1000000) : WF Try.prog cfg 53 [.sl (b.map byteA)] H (fun r H' => r = .tup [.sl ((Jr.next b).1.map byteA), .b (Jr.next b).2] ∧ H <+: H') := by
  have hm : ∀ d, cfg.muF 53 d = (false) := fun _ => rfl
  have hz : ∀ d, cfg.fzF 53 d = (false) := fun _ => rfl
  have ht : ∀ d, cfg.tkF 53 d = (false) := fun _ => rfl
  have hr_ : ∀ g, cfg.raw g = (g == 58 || g == 69) := fun _ => rfl
  refine rF_fn rfl rfl Try.func53 rfl ?_
  repeat' (first | simp (disch := first | omega | assumption | decide) only [go_sem, hm, hz, ht, hr_] | refine ifP_in (fun _ => ?_) (fun _ => ?_))
  refine rF_use (get_w b (by omega) (.inl rfl)) ?_
  rintro _ H1 ⟨rfl, rfl⟩
  have hlt := get2_lt b
  unfold Jr.next
  by_cases h2 : b.length < 2
  · rw [if_pos h2, if_pos h2]
    repeat' (first | simp (disch := first | omega | assumption | decide) only [go_sem, hm, hz, ht, hr_] | refine ifP_in (fun _ => ?_) (fun _ => ?_))
    exact List.prefix_refl _
  · rw [if_neg h2, if_neg h2]
    generalize hn : Jr.get (b.take 2) = n at *
    repeat' (first | simp (disch := first | omega | assumption | decide) only [go_sem, hm, hz, ht, hr_] | refine ifP_in (fun _ => ?_) (fun _ => ?_))
    · rw [if_pos (.inr (by omega))]
      exact ⟨rfl, List.prefix_refl _⟩
    · have hp : (b.take (6 + (n : Int)).toNat).drop 6 = (b.drop 6).take n := by
        rw [show (6 + (n : Int)).toNat = 6 + n by omega, List.drop_take]; congr 1; omega
      rw [if_neg (by omega), hp]
      have hpl : ((b.drop 6).take n).length = n := by simp; omega
      generalize hpp : (b.drop 6).take n = p at *
      refine rF_use (clone_w p (by omega) (.inl rfl)) ?_
      rintro _ H2 ⟨rfl, rfl⟩
      repeat' (first | simp (disch := first | omega | assumption | decide) only [go_sem, hm, hz, ht, hr_] | refine ifP_in (fun _ => ?_) (fun _ => ?_))
      refine rF_use (frame_w p (by omega)) ?_
      rintro _ H3 ⟨rfl, hp3⟩
      repeat' (first | simp (disch := first | omega | assumption | decide) only [go_sem, hm, hz, ht, hr_] | refine ifP_in (fun _ => ?_) (fun _ => ?_))
      refine rF_use (Equal_w (Jr.frame p) (b.take (6 + n)) rfl (by rw [show (6 + (n : Int)).toNat = 6 + n by omega])) ?_
      rintro _ H4 ⟨rfl, rfl⟩
      repeat' (first | simp (disch := first | omega | assumption | decide) only [go_sem, hm, hz, ht, hr_] | refine ifP_in (fun _ => ?_) (fun _ => ?_))
      exact hp3
    · rw [if_pos (.inl (by omega))]
      exact ⟨rfl, List.prefix_refl _⟩
end Jn
end Go.Proofs
