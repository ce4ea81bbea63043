/- Walks: texts cut at a sign; prefixes. -/
import Derived.Test.YtiboedaicjkfnaaGreatDoorUtA
import Derived.Test.YtiboedaicjkfnaaGreatDoorLvAll15
set_option linter.unusedVariables false
set_option linter.unusedSimpArgs false
namespace Go.Proofs
open Go.Lv
namespace Ut
open Pu
variable {H : Heap}
theorem split_we (s : List UInt8) (c : UInt8) (hs : s.length ≤ 1000000) {Q : K (AV → Heap → Prop)} : @rF Tryz.prog cfg 84 [.str s, .str [c]] H Q = Q.v (.sl ((Sp.split c s).map AV.str)) H := rF_eq (split_at_ok rfl (by omega))
theorem hasPrefix_w (s p : List UInt8) : WF Tryz.prog cfg 29 [.str s, .str p] H (fun r H' => r = .b (decide (s.take p.length = p)) ∧ H' = H) := by
 have hm : ∀ d, cfg.muF 29 d = (false) := fun _ => rfl
 have hz : ∀ d, cfg.fzF 29 d = (false) := fun _ => rfl
 have ht : ∀ d, cfg.tkF 29 d = (false) := fun _ => rfl
 have hr_ : ∀ g, cfg.raw g = (g == 152 || g == 118) := fun _ => rfl
 refine rF_fn rfl rfl Tryz.func29 rfl ?_
 by_cases h : p.length ≤ s.length
 ·repeat' first|simp (disch:=first|omega|assumption|decide) only[go_sem,hm,hz,ht,hr_]|(apply ifP_in<;>intro)
 ·have : ¬ s.take p.length = p := fun he => by have := congrArg List.length he; simp at this; omega
  repeat' first|simp (disch:=first|omega|assumption|decide) only[go_sem,hm,hz,ht,hr_]|(apply ifP_in<;>intro)
  rw [decide_eq_false this]
theorem hasPrefix_we (s p : List UInt8) {Q : K (AV → Heap → Prop)} : @rF Tryz.prog cfg 29 [.str s, .str p] H Q = Q.v (.b (decide (s.take p.length = p))) H := rF_eq (hasPrefix_w s p)
end Ut
end Go.Proofs
