/- Walks: the document's kinds of signs; texts. -/
import Derived.Test.YtiboedaicjkfnaaGreatDoorIdR
set_option linter.unusedVariables false
set_option linter.unusedSimpArgs false
namespace Go.Proofs
open Go.Lv
namespace In
open Pu
variable {H : Heap}
theorem scalar_re (c : Int) {Q : K (AV → Heap → Prop)} : @rF Tryz.prog cfg 136 [.i c] H Q = Q.v (.b (Puny.scalar c)) H := rF_eq (scalar_r c)
theorem kind_r (c : Int) : WF Tryz.prog cfg 107 [.i c] H (fun r H' => r = .i (Id.kind c) ∧ H' = H) := by
 have hm : ∀ d, cfg.muF 107 d = (false) := fun _ => rfl
 have hz : ∀ d, cfg.fzF 107 d = (false) := fun _ => rfl
 have ht : ∀ d, cfg.tkF 107 d = (false) := fun _ => rfl
 have hr_ : ∀ g, cfg.raw g = (g == 152 || g == 118) := fun _ => rfl
 refine rF_fn rfl rfl Tryz.func107 rfl ?_
 cases hs : Puny.scalar c with
 | true =>
  obtain ⟨b1, b2⟩ := Puny.scalar_bnd hs
  repeat' first|simp (disch:=first|omega|assumption|decide) only[go_sem,hm,hz,ht,hr_,within_re,scalar_re,rto_re,hs,bin_low]|(apply ifP_in<;>intro)
  all_goals
   rw [AV.v.injEq, Value.int.injEq]
   refine ⟨rfl, ?_⟩
   clear hm hz ht hr_
   have hs2 := hs
   simp only [Id.kind, Id.ignored, Id.forbidden, Id.within, hs2, Bool.not_true, Bool.not_false, Bool.false_or, Bool.true_or, Bool.and_eq_true, Bool.or_eq_true, decide_eq_true_eq, Bool.and_eq_false_iff, decide_eq_false_iff_not, ne_eq, Decidable.not_not, gt_iff_lt, ge_iff_le] at *
   repeat' split
   all_goals omega
 | false =>
  repeat' first|simp (disch:=first|omega|assumption|decide) only[go_sem,hm,hz,ht,hr_,within_re,scalar_re,hs,bin_low]|(apply ifP_in<;>intro)
  all_goals
   rw [AV.v.injEq, Value.int.injEq]
   refine ⟨rfl, ?_⟩
   clear hm hz ht hr_
   have hs2 := hs
   simp only [Id.kind, Id.ignored, Id.forbidden, Id.within, hs2, Bool.not_true, Bool.not_false, Bool.false_or, Bool.true_or, Bool.and_eq_true, Bool.or_eq_true, decide_eq_true_eq, Bool.and_eq_false_iff, decide_eq_false_iff_not, ne_eq, Decidable.not_not, gt_iff_lt, ge_iff_le] at *
   repeat' split
   all_goals omega
theorem kind_re (c : Int) {Q : K (AV → Heap → Prop)} : @rF Tryz.prog cfg 107 [.i c] H Q = Q.v (.i (Id.kind c)) H := rF_eq (kind_r c)
end In
end Go.Proofs
