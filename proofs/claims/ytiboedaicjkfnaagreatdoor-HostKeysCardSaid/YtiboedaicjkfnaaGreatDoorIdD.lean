/- Walks: the mark. -/
import Derived.Test.YtiboedaicjkfnaaGreatDoorIdC
import Derived.Test.YtiboedaicjkfnaaGreatDoorUtA
set_option linter.unusedVariables false
set_option linter.unusedSimpArgs false
namespace Go.Proofs
open Go.Lv
namespace In
open Pu
variable {H : Heap}
theorem marked_w (l : List Int) (hl : l.length ≤ 100000) : WF Tryz.prog cfg 91 [.sl (l.map iA)] H (fun r H' => r = .b (Id.marked l) ∧ H' = H) := by
 have hm : ∀ d, cfg.muF 91 d = (false) := fun _ => rfl
 have hz : ∀ d, cfg.fzF 91 d = (false) := fun _ => rfl
 have ht : ∀ d, cfg.tkF 91 d = (false) := fun _ => rfl
 have hr_ : ∀ g, cfg.raw g = (g == 152 || g == 118) := fun _ => rfl
 refine rF_fn rfl rfl Tryz.func91 rfl ?_
 by_cases h4 : 4 ≤ l.length
 ·repeat' first|simp (disch:=first|omega|assumption|decide) only[go_sem,hm,hz,ht,hr_]|(apply ifP_in<;>intro)
  refine rF_use (Ut.text_w (l.take 4) (by simp; omega)) ?_
  rintro _ H1 ⟨rfl, rfl⟩
  have hm := Id.text_mark (q := l.take 4)
  repeat' first|simp (disch:=first|omega|assumption|decide) only[go_sem,hm,hz,ht,hr_]|(apply ifP_in<;>intro)
  unfold Id.marked
  simp only [← hm, Id.XNb]
 ·have : ¬ l.take 4 = Id.XN := fun h => by have := congrArg List.length h; simp [Id.XN] at this; omega
  repeat' first|simp (disch:=first|omega|assumption|decide) only[go_sem,hm,hz,ht,hr_]|(apply ifP_in<;>intro)
  simp [Id.marked, this]
end In
end Go.Proofs
