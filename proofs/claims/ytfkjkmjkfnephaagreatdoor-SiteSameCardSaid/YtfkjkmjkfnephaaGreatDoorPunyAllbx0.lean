/- Walks through the small functions of the chapter on signs by few letters. -/
import Derived.Test.YtfkjkmjkfnephaaGreatDoorWR12
import Derived.Test.YtfkjkmjkfnephaaGreatDoorLvAll11
import Derived.Test.YtfkjkmjkfnephaaGreatDoorPunyAllax0
set_option linter.unusedVariables false
set_option linter.unusedSimpArgs false
namespace Go.Proofs
open Go.Lv
namespace Pu
variable {H : Heap}
end Pu
end Go.Proofs
/- Walks through adapt. -/
set_option linter.unusedVariables false
set_option linter.unusedSimpArgs false
namespace Go.Proofs
open Go.Lv
namespace Pu
variable {H : Heap}
end Pu
end Go.Proofs
/- Walks through next. -/
set_option linter.unusedVariables false
set_option linter.unusedSimpArgs false
namespace Go.Proofs
open Go.Lv
namespace Pu
variable {H : Heap}
theorem foldl_take {α β : Type} [Inhabited α] (f : β → α → β) (b : β) (l : List α) (i : Nat) (h : i < l.length) : (l.take (i + 1)).foldl f b = f ((l.take i).foldl f b) (ix l (i : Int)) := by
 rw [List.take_add_one, List.foldl_append]
 simp [ix, xgD, xgE h]
theorem next_w (l : List Int) (n : Int) (hl : l.length < 1000000) : WF Tryz.prog cfg 137 [.sl (l.map fun n => AV.v (.int .i64 n)), .i n] H (fun r H' => r = .i (Puny.nxt l n) ∧ H' = H) := by
 have hm : ∀ d, cfg.muF 137 d = (false) := fun _ => rfl
 have hz : ∀ d, cfg.fzF 137 d = (false) := fun _ => rfl
 have ht : ∀ d, cfg.tkF 137 d = (false) := fun _ => rfl
 have hr_ : ∀ g, cfg.raw g = (g == 147 || g == 130 || g == 57) := fun _ => rfl
 refine rF_fn rfl rfl Tryz.func137 rfl ?_
 repeat' first|simp (disch:=first|omega|assumption|decide) only[go_sem,hm,hz,ht,hr_]|(apply ifP_in<;>intro)
 refine rL_loop (σ := Nat) (fun i e H' => H' = H ∧ e 1 = .i n ∧ e 8 = .sl (l.map fun n => AV.v (.int .i64 n)) ∧ e 9 = .i l.length ∧ e 10 = .i i ∧ i ≤ l.length ∧ e 5 = .i ((l.take i).foldl (Puny.nx n) 2147483647)) (fun i => l.length - i) 0 ?_ ?_
 ·refine ⟨rfl, ?_, ?_, ?_, ?_, by omega, ?_⟩ <;> simp (disch := first | assumption | omega) only [go_sem] <;> rfl
 ·rintro i e H' ⟨rfl, g1, g8, g9, g10, gi, g5⟩
  repeat' first|simp (disch:=first|omega|assumption|decide) only[go_sem,hm,hz,ht,hr_,g1,g8,g9,g10,g5]|(apply ifP_in<;>intro)
  ·refine ⟨i + 1, ⟨by simp, by omega, ?_⟩, by omega⟩
   rw [foldl_take _ _ _ _ (by omega), Puny.nx, if_pos (by assumption)]
  ·refine ⟨i + 1, ⟨by simp, by omega, ?_⟩, by omega⟩
   rw [foldl_take _ _ _ _ (by omega), Puny.nx, if_neg (by assumption)]
  ·rw [List.take_of_length_le (by omega)]; rfl
end Pu
end Go.Proofs
/- Walks through number. -/
set_option linter.unusedVariables false
set_option linter.unusedSimpArgs false
namespace Go.Proofs
open Go.Lv
namespace Pu
variable {H : Heap}
end Pu
end Go.Proofs
/- Walks through delta. -/
set_option linter.unusedVariables false
set_option linter.unusedSimpArgs false
namespace Go.Proofs
open Go.Lv
namespace Pu
variable {H : Heap}
end Pu
end Go.Proofs
/- Walks through the search for a byte from behind. -/
set_option linter.unusedVariables false
set_option linter.unusedSimpArgs false
namespace Go.Proofs
open Go.Lv
namespace Pu
variable {H : Heap}
theorem ix_getD (s : List UInt8) (n : Nat) : ix s ((n : Int)) = s.getD n 0 := by simp [ix]; rfl
theorem lastStr_w (s : List UInt8) (c : UInt8) (hs : s.length < 1000000) : WF Tryz.prog cfg 21 [.str s, byteA c] H (fun r H' => r = .i (Puny.lastIx s c s.length) ∧ H' = H) := by
 have hm : ∀ d, cfg.muF 21 d = (false) := fun _ => rfl
 have hz : ∀ d, cfg.fzF 21 d = (false) := fun _ => rfl
 have ht : ∀ d, cfg.tkF 21 d = (false) := fun _ => rfl
 have hr_ : ∀ g, cfg.raw g = (g == 147 || g == 130 || g == 57) := fun _ => rfl
 refine rF_fn rfl rfl Tryz.func21 rfl ?_
 repeat' first|simp (disch:=first|omega|assumption|decide) only[go_sem,hm,hz,ht,hr_]|(apply ifP_in<;>intro)
 refine rL_loop (σ := Nat) (fun n e H' => H' = H ∧ e 0 = .str s ∧ e 1 = byteA c ∧ e 5 = .i ((n : Int) - 1) ∧ n ≤ s.length ∧ Puny.lastIx s c n = Puny.lastIx s c s.length) (fun n => n) s.length ?_ ?_
 ·refine ⟨rfl, ?_, ?_, ?_, by omega, rfl⟩ <;> simp (disch := first | assumption | omega) only [go_sem]
 ·rintro n e H' ⟨rfl, g0, g1, g5, i1, i2⟩
  repeat' first|simp (disch:=first|omega|assumption|decide) only[go_sem,hm,hz,ht,hr_,g0,g1,g5]|(apply ifP_in<;>intro)
  ·obtain ⟨m, rfl⟩ : ∃ m, n = m + 1 := ⟨n - 1, by omega⟩
   have he : ix s (((m + 1 : Nat) : Int) - 1) = s.getD m 0 := by rw [show ((m + 1 : Nat) : Int) - 1 = (m : Int) by omega]; exact ix_getD s m
   rw [Puny.lastIx] at i2
   rename_i hq
   rw [he] at hq
   have hq' : s.getD m 0 = c := UInt8.toNat_inj.1 (by omega)
   rw [if_pos hq'] at i2
   rw [← i2]; congr 2; omega
  ·obtain ⟨m, rfl⟩ : ∃ m, n = m + 1 := ⟨n - 1, by omega⟩
   have he : ix s (((m + 1 : Nat) : Int) - 1) = s.getD m 0 := by rw [show ((m + 1 : Nat) : Int) - 1 = (m : Int) by omega]; exact ix_getD s m
   rw [Puny.lastIx] at i2
   rename_i hq
   rw [he] at hq
   have hq' : ¬ s.getD m 0 = c := fun h => hq (by rw [h])
   rw [if_neg hq'] at i2
   exact ⟨m, ⟨by congr 2; omega, by omega, i2⟩, by omega⟩
  ·have : n = 0 := by omega
   subst this
   rw [← i2]; rfl
theorem last_w (s : List UInt8) (c : UInt8) (hs : s.length < 1000000) : WF Tryz.prog cfg 14 [.str s, byteA c] H (fun r H' => r = .i (Puny.lastIx s c s.length) ∧ H' = H) := by
 have hm : ∀ d, cfg.muF 14 d = (false) := fun _ => rfl
 have hz : ∀ d, cfg.fzF 14 d = (false) := fun _ => rfl
 have ht : ∀ d, cfg.tkF 14 d = (false) := fun _ => rfl
 have hr_ : ∀ g, cfg.raw g = (g == 147 || g == 130 || g == 57) := fun _ => rfl
 refine rF_fn rfl rfl Tryz.func14 rfl ?_
 repeat' first|simp (disch:=first|omega|assumption|decide) only[go_sem,hm,hz,ht,hr_]|(apply ifP_in<;>intro)
 refine rF_use (lastStr_w s c hs) ?_
 rintro _ _ ⟨rfl, rfl⟩
 repeat' first|simp (disch:=first|omega|assumption|decide) only[go_sem,hm,hz,ht,hr_]|(apply ifP_in<;>intro)
end Pu
end Go.Proofs
/- Walks through Encode. -/
set_option linter.unusedVariables false
set_option linter.unusedSimpArgs false
namespace Go.Proofs
open Go.Lv
namespace Pu
variable {H : Heap}
end Pu
end Go.Proofs
/- Walks through the document's writing of signs by few letters. -/
set_option linter.unusedVariables false
set_option linter.unusedSimpArgs false
namespace Go.Proofs
open Go.Lv
namespace Pu
variable {H : Heap}
end Pu
end Go.Proofs
/- Walks through Decode. -/
set_option linter.unusedVariables false
set_option linter.unusedSimpArgs false
namespace Go.Proofs
open Go.Lv
namespace Pu
variable {H : Heap}
end Pu
end Go.Proofs
/- Walks through the document's reading of signs by few letters. -/
set_option linter.unusedVariables false
set_option linter.unusedSimpArgs false
namespace Go.Proofs
open Go.Lv
namespace Pu
variable {H : Heap}
end Pu
end Go.Proofs
/- The chapter's examples, and signs below 80 alone. -/
set_option linter.unusedVariables false
set_option linter.unusedSimpArgs false
namespace Go.Puny
end Go.Puny
/- Walks through lists held against one another, and the chapter's examples. -/
set_option linter.unusedVariables false
set_option linter.unusedSimpArgs false
namespace Go.Proofs
open Go.Lv
namespace Pu
variable {H : Heap}
end Pu
end Go.Proofs
