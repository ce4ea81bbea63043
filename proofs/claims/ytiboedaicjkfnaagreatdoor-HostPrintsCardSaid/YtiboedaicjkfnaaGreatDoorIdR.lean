/- Walks: the document's signs. -/
import Derived.Test.YtiboedaicjkfnaaGreatDoorIdH
import Derived.Test.YtiboedaicjkfnaaGreatDoorLvAll15
set_option linter.unusedVariables false
set_option linter.unusedSimpArgs false
namespace Go.Proofs
open Go.Lv
namespace In
open Pu
variable {H : Heap}
theorem within_r (c lo hi : Int) : WF Tryz.prog cfg 135 [.i c, .i lo, .i hi] H (fun r H' => r = .b (Id.within c lo hi) ∧ H' = H) := by
 have hm : ∀ d, cfg.muF 135 d = (false) := fun _ => rfl
 have hz : ∀ d, cfg.fzF 135 d = (false) := fun _ => rfl
 have ht : ∀ d, cfg.tkF 135 d = (false) := fun _ => rfl
 have hr_ : ∀ g, cfg.raw g = (g == 152 || g == 118) := fun _ => rfl
 refine rF_fn rfl rfl Tryz.func135 rfl ?_
 repeat' first|simp (disch:=first|omega|assumption|decide) only[go_sem,hm,hz,ht,hr_]|(apply ifP_in<;>intro)
 all_goals (simp only [AV.v.injEq, Value.bool.injEq]; exact Bool.eq_iff_iff.2 (by simp [Id.within]; omega))
theorem within_re (c lo hi : Int) {Q : K (AV → Heap → Prop)} : @rF Tryz.prog cfg 135 [.i c, .i lo, .i hi] H Q = Q.v (.b (Id.within c lo hi)) H := rF_eq (within_r c lo hi)
theorem small_r (c : Int) (hc : -9000000000000000000 ≤ c ∧ c ≤ 9000000000000000000) : WF Tryz.prog cfg 137 [.i c] H (fun r H' => r = .i (Id.rsmall c) ∧ H' = H) := by
 have hm : ∀ d, cfg.muF 137 d = (false) := fun _ => rfl
 have hz : ∀ d, cfg.fzF 137 d = (false) := fun _ => rfl
 have ht : ∀ d, cfg.tkF 137 d = (false) := fun _ => rfl
 have hr_ : ∀ g, cfg.raw g = (g == 152 || g == 118) := fun _ => rfl
 refine rF_fn rfl rfl Tryz.func137 rfl ?_
 repeat' first|simp (disch:=first|omega|assumption|decide) only[go_sem,hm,hz,ht,hr_,within_re]|(apply ifP_in<;>intro)
 all_goals
  rw [AV.v.injEq, Value.int.injEq]
  refine ⟨rfl, ?_⟩
  clear hm hz ht hr_
  simp only [Id.rsmall, Id.within, Bool.and_eq_true, Bool.or_eq_true, decide_eq_true_eq, Bool.and_eq_false_iff, decide_eq_false_iff_not, ne_eq, Decidable.not_not] at *
  repeat' split
  all_goals omega
theorem small_re (c : Int) (hc : -9000000000000000000 ≤ c ∧ c ≤ 9000000000000000000) {Q : K (AV → Heap → Prop)} : @rF Tryz.prog cfg 137 [.i c] H Q = Q.v (.i (Id.rsmall c)) H := rF_eq (small_r c hc)
theorem rto_r (c : Int) (hc : -1000000000000000000 ≤ c ∧ c ≤ 1000000000000000000) : WF Tryz.prog cfg 108 [.i c] H (fun r H' => r = .sl ((Id.rto c).map iA) ∧ H' = H) := by
 have hm : ∀ d, cfg.muF 108 d = (false) := fun _ => rfl
 have hz : ∀ d, cfg.fzF 108 d = (false) := fun _ => rfl
 have ht : ∀ d, cfg.tkF 108 d = (false) := fun _ => rfl
 have hr_ : ∀ g, cfg.raw g = (g == 152 || g == 118) := fun _ => rfl
 refine rF_fn rfl rfl Tryz.func108 rfl ?_
 repeat' first|simp (disch:=first|omega|assumption|decide) only[go_sem,hm,hz,ht,hr_,small_re,within_re]|(apply ifP_in<;>intro)
 all_goals
  rw [AV.sl.injEq]
  clear hm hz ht hr_
  unfold Id.rto
  repeat' (first | (rw [if_pos (by first | assumption | omega)]) | (rw [if_neg (by first | assumption | omega)]))
  try rfl
theorem rto_re (c : Int) (hc : -1000000000000000000 ≤ c ∧ c ≤ 1000000000000000000) {Q : K (AV → Heap → Prop)} : @rF Tryz.prog cfg 108 [.i c] H Q = Q.v (.sl ((Id.maps c).map iA)) H := by
 rw [← Id.rto_maps]; exact rF_eq (rto_r c hc)
end In
end Go.Proofs
