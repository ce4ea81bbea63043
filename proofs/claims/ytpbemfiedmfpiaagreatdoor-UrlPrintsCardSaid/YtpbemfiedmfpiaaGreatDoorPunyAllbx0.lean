/- Walks through the small functions of the chapter on signs by few letters. -/
import Derived.Test.YtpbemfiedmfpiaaGreatDoorWR11
import Derived.Test.YtpbemfiedmfpiaaGreatDoorLvAll11
import Derived.Test.YtpbemfiedmfpiaaGreatDoorPunyAllax0
set_option linter.unusedVariables false
set_option linter.unusedSimpArgs false
namespace Go.Proofs
open Go.Lv
namespace Pu
variable {H : Heap}
theorem scalar_w (c : Int) : WF Tryz.prog cfg 207 [.i c] H (fun r H' => r = .b (Puny.scalar c) ∧ H' = H) := by
 have hm : ∀ d, cfg.muF 207 d = (false) := fun _ => rfl
 have hz : ∀ d, cfg.fzF 207 d = (false) := fun _ => rfl
 have ht : ∀ d, cfg.tkF 207 d = (false) := fun _ => rfl
 have hr_ : ∀ g, cfg.raw g = (g == 253 || g == 225 || g == 53) := fun _ => rfl
 refine rF_fn rfl rfl Tryz.func207 rfl ?_
 repeat' first|simp (disch:=first|omega|assumption|decide) only[go_sem,hm,hz,ht,hr_]|(apply ifP_in<;>intro)
 all_goals (simp only [AV.v.injEq, Value.bool.injEq]; exact Bool.eq_iff_iff.2 (by simp [Puny.scalar]; omega))
end Pu
end Go.Proofs
/- Walks through adapt. -/
set_option linter.unusedVariables false
set_option linter.unusedSimpArgs false
namespace Go.Proofs
open Go.Lv
namespace Pu
variable {H : Heap}
end Pu
end Go.Proofs
/- Walks through next. -/
set_option linter.unusedVariables false
set_option linter.unusedSimpArgs false
namespace Go.Proofs
open Go.Lv
namespace Pu
variable {H : Heap}
theorem foldl_take {α β : Type} [Inhabited α] (f : β → α → β) (b : β) (l : List α) (i : Nat) (h : i < l.length) : (l.take (i + 1)).foldl f b = f ((l.take i).foldl f b) (ix l (i : Int)) := by
 rw [List.take_add_one, List.foldl_append]
 simp [ix, xgD, xgE h]
theorem next_w (l : List Int) (n : Int) (hl : l.length < 1000000) : WF Tryz.prog cfg 232 [.sl (l.map fun n => AV.v (.int .i64 n)), .i n] H (fun r H' => r = .i (Puny.nxt l n) ∧ H' = H) := by
 have hm : ∀ d, cfg.muF 232 d = (false) := fun _ => rfl
 have hz : ∀ d, cfg.fzF 232 d = (false) := fun _ => rfl
 have ht : ∀ d, cfg.tkF 232 d = (false) := fun _ => rfl
 have hr_ : ∀ g, cfg.raw g = (g == 253 || g == 225 || g == 53) := fun _ => rfl
 refine rF_fn rfl rfl Tryz.func232 rfl ?_
 repeat' first|simp (disch:=first|omega|assumption|decide) only[go_sem,hm,hz,ht,hr_]|(apply ifP_in<;>intro)
 refine rL_loop (σ := Nat) (fun i e H' => H' = H ∧ e 1 = .i n ∧ e 8 = .sl (l.map fun n => AV.v (.int .i64 n)) ∧ e 9 = .i l.length ∧ e 10 = .i i ∧ i ≤ l.length ∧ e 5 = .i ((l.take i).foldl (Puny.nx n) 2147483647)) (fun i => l.length - i) 0 ?_ ?_
 ·refine ⟨rfl, ?_, ?_, ?_, ?_, by omega, ?_⟩ <;> simp (disch := first | assumption | omega) only [go_sem] <;> rfl
 ·rintro i e H' ⟨rfl, g1, g8, g9, g10, gi, g5⟩
  repeat' first|simp (disch:=first|omega|assumption|decide) only[go_sem,hm,hz,ht,hr_,g1,g8,g9,g10,g5]|(apply ifP_in<;>intro)
  ·refine ⟨i + 1, ⟨by simp, by omega, ?_⟩, by omega⟩
   rw [foldl_take _ _ _ _ (by omega), Puny.nx, if_pos (by assumption)]
  ·refine ⟨i + 1, ⟨by simp, by omega, ?_⟩, by omega⟩
   rw [foldl_take _ _ _ _ (by omega), Puny.nx, if_neg (by assumption)]
  ·rw [List.take_of_length_le (by omega)]; rfl
end Pu
end Go.Proofs
/- Walks through number. -/
set_option linter.unusedVariables false
set_option linter.unusedSimpArgs false
namespace Go.Proofs
open Go.Lv
namespace Pu
variable {H : Heap}
end Pu
end Go.Proofs
/- Walks through delta. -/
set_option linter.unusedVariables false
set_option linter.unusedSimpArgs false
namespace Go.Proofs
open Go.Lv
namespace Pu
variable {H : Heap}
end Pu
end Go.Proofs
/- Walks through the search for a byte from behind. -/
set_option linter.unusedVariables false
set_option linter.unusedSimpArgs false
namespace Go.Proofs
open Go.Lv
namespace Pu
variable {H : Heap}
end Pu
end Go.Proofs
/- Walks through Encode. -/
set_option linter.unusedVariables false
set_option linter.unusedSimpArgs false
namespace Go.Proofs
open Go.Lv
namespace Pu
variable {H : Heap}
end Pu
end Go.Proofs
/- Walks through the document's writing of signs by few letters. -/
set_option linter.unusedVariables false
set_option linter.unusedSimpArgs false
namespace Go.Proofs
open Go.Lv
namespace Pu
variable {H : Heap}
end Pu
end Go.Proofs
/- Walks through Decode. -/
set_option linter.unusedVariables false
set_option linter.unusedSimpArgs false
namespace Go.Proofs
open Go.Lv
namespace Pu
variable {H : Heap}
abbrev iA : Int → AV := fun n => AV.v (.int .i64 n)
end Pu
end Go.Proofs
/- Walks through the document's reading of signs by few letters. -/
set_option linter.unusedVariables false
set_option linter.unusedSimpArgs false
namespace Go.Proofs
open Go.Lv
namespace Pu
variable {H : Heap}
end Pu
end Go.Proofs
/- The chapter's examples, and signs below 80 alone. -/
set_option linter.unusedVariables false
set_option linter.unusedSimpArgs false
namespace Go.Puny
end Go.Puny
/- Walks through lists held against one another, and the chapter's examples. -/
set_option linter.unusedVariables false
set_option linter.unusedSimpArgs false
namespace Go.Proofs
open Go.Lv
namespace Pu
variable {H : Heap}
end Pu
end Go.Proofs
