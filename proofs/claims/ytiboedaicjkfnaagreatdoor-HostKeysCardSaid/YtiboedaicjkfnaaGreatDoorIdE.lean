/- Walks: slices of signs searched, laid behind each other, mapped, cut. -/
import Derived.Test.YtiboedaicjkfnaaGreatDoorIdD
set_option linter.unusedVariables false
set_option linter.unusedSimpArgs false
namespace Go.Proofs
open Go.Lv
namespace In
open Pu
variable {H : Heap}
theorem flat_take {l : List (List Int)} {i : Nat} (h : i < l.length) : (l.take (i + 1)).flatten = (l.take i).flatten ++ l[i] := by
 rw [List.take_succ_eq_append_getElem h, List.flatten_append]; simp
theorem flat_le (l : List (List Int)) (i : Nat) : (l.take i).flatten.length ≤ l.flatten.length := by
 conv => rhs; rw [← List.take_append_drop i l, List.flatten_append, List.length_append]
 omega
theorem concat_w (ls : List (List Int)) (h1 : ls.length ≤ 1000000) (h2 : ls.flatten.length ≤ 1000000) : WF Tryz.prog cfg 87 [.sl (ls.map fun l => AV.sl (l.map iA))] H (fun r H' => r = .sl (ls.flatten.map iA) ∧ H' = H) := by
 have hm : ∀ d, cfg.muF 87 d = (false) := fun _ => rfl
 have hz : ∀ d, cfg.fzF 87 d = (false) := fun _ => rfl
 have ht : ∀ d, cfg.tkF 87 d = (false) := fun _ => rfl
 have hr_ : ∀ g, cfg.raw g = (g == 152 || g == 118) := fun _ => rfl
 refine rF_fn rfl rfl Tryz.func87 rfl ?_
 repeat' first|simp (disch:=first|omega|assumption|decide) only[go_sem,hm,hz,ht,hr_]|(apply ifP_in<;>intro)
 refine rL_loop (σ := Nat) (fun i e H' => H' = H ∧ e 0 = .sl (ls.map fun l => AV.sl (l.map iA)) ∧ e 9 = .sl (ls.map fun l => AV.sl (l.map iA)) ∧ e 10 = .i ls.length ∧ e 11 = .i i ∧ e 3 = .i (ls.take i).flatten.length ∧ i ≤ ls.length) (fun i => ls.length - i) 0 ?_ ?_
 ·refine ⟨rfl, ?_, ?_, ?_, ?_, ?_, by omega⟩
  all_goals first | (simp (disch := first | assumption | omega) only [go_sem]; done) | (simp (disch := first | assumption | omega) only [go_sem]; rfl)
 ·rintro i e H' ⟨rfl, g0, g9, g10, g11, g3, i1⟩
  by_cases hi : i < ls.length
  ·have hix := ix_at hi
   have hf := flat_take hi
   have hle := flat_le ls (i + 1)
   rw [hf, List.length_append] at hle
   generalize ls[i] = x at *
   generalize (ls.take i).flatten = y at *
   repeat' first|simp (disch:=first|omega|assumption|decide) only[go_sem,hm,hz,ht,hr_,g0,g9,g10,g11,g3,hix]|(apply ifP_in<;>intro)
   refine ⟨i + 1, ⟨rfl, ?_, by omega⟩, by omega⟩
   rw [hf, List.length_append]; congr
  ·obtain rfl : i = ls.length := by omega
   rw [List.take_length] at g3
   repeat' first|simp (disch:=first|omega|assumption|decide) only[go_sem,hm,hz,ht,hr_,g0,g9,g10,g11,g3]|(apply ifP_in<;>intro)
   refine rF_use (WF.ext (g := fun args H => growT 8 H args) rfl (r := .sl []) (H' := H') (by
    show (if _ then _ else _) = _
    rw [if_pos ⟨by omega, by omega, by omega⟩]) (Q := fun r K => r = .sl [] ∧ K = H') ⟨rfl, rfl⟩) ?_
   rintro _ K0 ⟨rfl, rfl⟩
   repeat' first|simp (disch:=first|omega|assumption|decide) only[go_sem,hm,hz,ht,hr_,g0,g9,g10,g11,g3]|(apply ifP_in<;>intro)
   refine rL_loop (σ := Nat) (fun i e K => K = K0 ∧ e 25 = .sl (ls.map fun l => AV.sl (l.map iA)) ∧ e 26 = .i ls.length ∧ e 27 = .i i ∧ e 6 = .sl ((ls.take i).flatten.map iA) ∧ i ≤ ls.length) (fun i => ls.length - i) 0 ?_ ?_
   ·refine ⟨rfl, ?_, ?_, ?_, ?_, by omega⟩
    all_goals first | (simp (disch := first | assumption | omega) only [go_sem, g0, g9, g10, g11, g3]; done) | (simp (disch := first | assumption | omega) only [go_sem, g0, g9, g10, g11, g3]; rfl)
   ·clear g0 g9 g10 g11 g3
    rintro i e K ⟨rfl, g25, g26, g27, g6, i1⟩
    by_cases hi : i < ls.length
    ·have hix := ix_at hi
     have hf := flat_take hi
     have hle := flat_le ls (i + 1)
     rw [hf, List.length_append] at hle
     generalize ls[i] = x at *
     generalize (ls.take i).flatten = y at *
     repeat' first|simp (disch:=first|omega|assumption|decide) only[go_sem,hm,hz,ht,hr_,g25,g26,g27,g6,hix]|(apply ifP_in<;>intro)
     refine ⟨i + 1, ⟨rfl, ?_, by omega⟩, by omega⟩
     rw [hf]
    ·obtain rfl : i = ls.length := by omega
     rw [List.take_length] at g6
     repeat' first|simp (disch:=first|omega|assumption|decide) only[go_sem,hm,hz,ht,hr_,g25,g26,g27,g6]|(apply ifP_in<;>intro)
end In
end Go.Proofs
