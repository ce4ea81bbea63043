/- Walks: plain signs. -/
import Derived.Test.YtiboedaicjkfnaaGreatDoorIdA
import Derived.Test.YtiboedaicjkfnaaGreatDoorLvAll10
set_option linter.unusedVariables false
set_option linter.unusedSimpArgs false
namespace Go.Proofs
open Go.Lv
namespace In
open Pu
variable {H : Heap}
theorem high_w (c : Int) : WF Tryz.prog cfg 123 [.i c] H (fun r H' => r = .b (Id.high c) ∧ H' = H) := by
 have hm : ∀ d, cfg.muF 123 d = (false) := fun _ => rfl
 have hz : ∀ d, cfg.fzF 123 d = (false) := fun _ => rfl
 have ht : ∀ d, cfg.tkF 123 d = (false) := fun _ => rfl
 have hr_ : ∀ g, cfg.raw g = (g == 152 || g == 118) := fun _ => rfl
 refine rF_fn rfl rfl Tryz.func123 rfl ?_
 repeat' first|simp (disch:=first|omega|assumption|decide) only[go_sem,hm,hz,ht,hr_]|(apply ifP_in<;>intro)
 all_goals (simp only [AV.v.injEq, Value.bool.injEq]; exact Bool.eq_iff_iff.2 (by simp [Id.high]; omega))
theorem indexF_w (l : List Int) (hl : l.length ≤ 140737488355328) : WF Tryz.prog cfg 149 [.sl (l.map iA), .fn 123 []] H (fun r H' => ∃ k : Int, r = .i k ∧ H' = H ∧ (0 ≤ k ↔ Id.plain l = false) ∧ -1 ≤ k ∧ k < 140737488355329) := by
 have hm : ∀ d, cfg.muF 149 d = (false) := fun _ => rfl
 have hz : ∀ d, cfg.fzF 149 d = (false) := fun _ => rfl
 have ht : ∀ d, cfg.tkF 149 d = (false) := fun _ => rfl
 have hr_ : ∀ g, cfg.raw g = (g == 152 || g == 118) := fun _ => rfl
 refine rF_fn rfl rfl Tryz.func149 rfl ?_
 repeat' first|simp (disch:=first|omega|assumption|decide) only[go_sem,hm,hz,ht,hr_]|(apply ifP_in<;>intro)
 refine rL_loop (σ := Nat) (fun i e H' => H' = H ∧ e 0 = .sl (l.map iA) ∧ e 1 = .fn 123 [] ∧ e 7 = .i l.length ∧ e 8 = .i i ∧ i ≤ l.length ∧ Id.plain (l.take i) = true) (fun i => l.length - i) 0 ?_ ?_
 ·refine ⟨rfl, ?_, ?_, ?_, ?_, by omega, rfl⟩
  all_goals first | (simp (disch := first | assumption | omega) only [go_sem]; done) | (simp (disch := first | assumption | omega) only [go_sem]; rfl)
 ·rintro i e H' ⟨rfl, g0, g1, g7, g8, i1, i2⟩
  have hdyn : cfg.dyn 123 = true := by decide
  by_cases hi : i < l.length
  ·have hix : ix l (i : Int) = l[i] := by simp [ix, xgD, xgE hi]
   repeat' first|simp (disch:=first|omega|assumption|decide) only[go_sem,hm,hz,ht,hr_,g0,g1,g7,g8,hix,hdyn]|(apply ifP_in<;>intro)
   refine rF_use (high_w l[i]) ?_
   rintro _ H1 ⟨rfl, rfl⟩
   cases hh : Id.high l[i] with
   | true =>
    repeat' first|simp (disch:=first|omega|assumption|decide) only[go_sem,hm,hz,ht,hr_,g0,g1,g7,g8,hix]|(apply ifP_in<;>intro)
    refine ⟨i, rfl, ⟨fun _ => ?_, fun _ => by omega⟩, by omega, by omega⟩
    exact Id.plain_not l i hi hh
   | false =>
    repeat' first|simp (disch:=first|omega|assumption|decide) only[go_sem,hm,hz,ht,hr_,g0,g1,g7,g8,hix]|(apply ifP_in<;>intro)
    refine ⟨i + 1, ⟨rfl, by omega, ?_⟩, by omega⟩
    exact Id.plain_snoc l i hi i2 hh
  ·have : i = l.length := by omega
   subst this
   rw [List.take_length] at i2
   repeat' first|simp (disch:=first|omega|assumption|decide) only[go_sem,hm,hz,ht,hr_,g0,g1,g7,g8]|(apply ifP_in<;>intro)
   refine ⟨-1, rfl, ⟨fun h => by omega, fun h => by rw [i2] at h; cases h⟩, by omega, by omega⟩
theorem containsF_w (l : List Int) (hl : l.length ≤ 140737488355328) : WF Tryz.prog cfg 122 [.sl (l.map iA), .fn 123 []] H (fun r H' => r = .b (!Id.plain l) ∧ H' = H) := by
 have hm : ∀ d, cfg.muF 122 d = (false) := fun _ => rfl
 have hz : ∀ d, cfg.fzF 122 d = (false) := fun _ => rfl
 have ht : ∀ d, cfg.tkF 122 d = (false) := fun _ => rfl
 have hr_ : ∀ g, cfg.raw g = (g == 152 || g == 118) := fun _ => rfl
 refine rF_fn rfl rfl Tryz.func122 rfl ?_
 repeat' first|simp (disch:=first|omega|assumption|decide) only[go_sem,hm,hz,ht,hr_]|(apply ifP_in<;>intro)
 refine rF_use (indexF_w l hl) ?_
 rintro _ H1 ⟨k, rfl, rfl, hk, k1, k2⟩
 repeat' first|simp (disch:=first|omega|assumption|decide) only[go_sem,hm,hz,ht,hr_]|(apply ifP_in<;>intro)
 all_goals (cases hp : Id.plain l <;> simp [hp] at hk ⊢ <;> omega)
theorem plain_w (l : List Int) (hl : l.length ≤ 140737488355328) : WF Tryz.prog cfg 90 [.sl (l.map iA)] H (fun r H' => r = .b (Id.plain l) ∧ H' = H) := by
 have hm : ∀ d, cfg.muF 90 d = (false) := fun _ => rfl
 have hz : ∀ d, cfg.fzF 90 d = (false) := fun _ => rfl
 have ht : ∀ d, cfg.tkF 90 d = (false) := fun _ => rfl
 have hr_ : ∀ g, cfg.raw g = (g == 152 || g == 118) := fun _ => rfl
 refine rF_fn rfl rfl Tryz.func90 rfl ?_
 repeat' first|simp (disch:=first|omega|assumption|decide) only[go_sem,hm,hz,ht,hr_]|(apply ifP_in<;>intro)
 refine rF_use (containsF_w l hl) ?_
 rintro _ H1 ⟨rfl, rfl⟩
 repeat' first|simp (disch:=first|omega|assumption|decide) only[go_sem,hm,hz,ht,hr_]|(apply ifP_in<;>intro)
 all_goals simp
end In
end Go.Proofs
