/- Walks: whose suffix a name has, the document's side. -/
import Derived.Test.YtpbemfiedmfpiaaGreatDoorSiA
set_option linter.unusedVariables false
set_option linter.unusedSimpArgs false
namespace Go.Proofs
open Go.Lv
namespace Hs
open Pu Ut Utf In
variable {H : Heap}
theorem okS_no {name s : List UInt8} (h1 : s ≠ name) (h2 : ¬ s.length < name.length) : Si.okS name s = false := by
 unfold Si.okS
 rw [decide_eq_false h1, decide_eq_false h2]; rfl
theorem okS_yes {name : List UInt8} : Si.okS name name = true := by
 unfold Si.okS
 rw [decide_eq_true rfl]; rfl
theorem okS_parts {name s : List UInt8} (h1 : s ≠ name) (h2 : s.length < name.length) : Si.okS name s = (decide (name.drop (name.length - s.length) = s) && decide (name.getD (name.length - s.length - 1) 0 = 46)) := by
 unfold Si.okS
 rw [decide_eq_false h1, decide_eq_true h2, Bool.false_or, Bool.true_and]
 have e : name.drop (name.length - (s.length + 1)) = name.getD (name.length - s.length - 1) 0 :: name.drop (name.length - s.length) := by
  rw [List.drop_eq_getElem_cons (by omega), xgD, xgE (by omega)]
  congr 2
  omega
 rw [e, Bool.eq_iff_iff, Bool.and_eq_true, decide_eq_true_iff, decide_eq_true_iff, decide_eq_true_iff, List.cons.injEq]
 exact And.comm
theorem stepD_len (name : List UInt8) : ∀ (l : List (List UInt8)) (p : List UInt8), p.length ≤ 300 → (∀ x ∈ l, x.length ≤ 300) → (l.foldl (Si.stepD name) p).length ≤ 300 := by
 intro l
 induction l with
 | nil => intro p h _; exact h
 | cons x l ih =>
  intro p h hx
  rw [List.foldl_cons]
  refine ih _ ?_ (fun y hy => hx y (by simp [hy]))
  unfold Si.stepD
  split
  ·exact hx x (by simp)
  ·exact h
theorem ix_lastL (name : List UInt8) : ix (Sp.split 46 name) (((Sp.split 46 name).length : Int) - 1) = Si.lastLabel name := by
 have h := Sp.split_pos (c := 46) name
 unfold Si.lastLabel ix
 rw [show (((Sp.split 46 name).length : Int) - 1).toNat = (Sp.split 46 name).length - 1 by omega]
 generalize Sp.split 46 name = l at *
 rw [xgD, ← List.getLast?_eq_getElem?, List.getLastD_eq_getLast?]
 rfl
theorem suffix_r (name : List UInt8) (l : List (List UInt8)) (hn : name.length ≤ 1000000) (hl : smallS l) : WF Tryz.prog cfg 41 [.str name, .sl (l.map AV.str)] H (fun r H' => r = .str (Si.suffix name l) ∧ H' = H) := by
 obtain ⟨h1, h2⟩ := hl
 have hm : ∀ d, cfg.muF 41 d = (false) := fun _ => rfl
 have hz : ∀ d, cfg.fzF 41 d = (false) := fun _ => rfl
 have ht : ∀ d, cfg.tkF 41 d = (false) := fun _ => rfl
 have hr_ : ∀ g, cfg.raw g = (g == 253 || g == 225 || g == 53) := fun _ => rfl
 refine rF_fn rfl rfl Tryz.func41 rfl ?_
 have h46 : byteA 46 = AV.v (.int .u8 46) := rfl
 have hsp := fun {Q : K (AV → Heap → Prop)} => split_re (H := H) name 46 hn (Q := Q)
 rw [h46] at hsp
 have hixl := ix_lastL name
 have hsl := Sp.split_len_le (c := 46) name
 have hsp0 := Sp.split_pos (c := 46) name
 have hsuf : Si.suffix name l = if l.foldl (Si.stepD name) [] = [] then Si.lastLabel name else l.foldl (Si.stepD name) [] := rfl
 rw [hsuf]
 generalize Sp.split 46 name = ps at *
 repeat' first|simp (disch:=first|omega|assumption|decide) only[go_sem,hm,hz,ht,hr_,hsp,hixl]|(apply ifP_in<;>intro)
 refine rL_loop (σ := Nat) (fun i e H' => H' = H ∧ e 0 = .str name ∧ e 1 = .sl (l.map AV.str) ∧ e 6 = .str (Si.lastLabel name) ∧ e 7 = .str ((l.take i).foldl (Si.stepD name) []) ∧ e 8 = .i i ∧ i ≤ l.length) (fun i => l.length - i) 0 ?_ ?_
 ·refine ⟨rfl, ?_, ?_, ?_, ?_, ?_, by omega⟩
  all_goals first | (simp (disch := first | assumption | omega) only [go_sem, hixl]; done) | (simp (disch := first | assumption | omega) only [go_sem, hixl]; rfl)
 ·rintro i e H' ⟨rfl, g0, g1, g6, g7, g8, i1⟩
  by_cases hi : i < l.length
  ·have hix := ix_at hi
   have hst : (l.take (i + 1)).foldl (Si.stepD name) [] = Si.stepD name ((l.take i).foldl (Si.stepD name) []) l[i] := by
    rw [List.take_succ_eq_append_getElem hi, List.foldl_append]; rfl
   have hbl := stepD_len name (l.take i) [] (by simp) (fun x hx => h2 x (List.mem_of_mem_take hx))
   have hsl := h2 _ (List.getElem_mem hi)
   generalize (l.take i).foldl (Si.stepD name) [] = f at *
   generalize l[i] = s at *
   have hP : Si.stepD name f s = (if (Si.okS name s && decide (f.length < s.length)) = true then s else f) := rfl
   rw [hP] at hst
   by_cases c1 : s = name
   ·have c1F : (s = name) = True := eq_true c1
    have c1D : decide (s = name) = true := decide_eq_true c1
    rw [show Si.okS name s = true by rw [c1]; exact okS_yes] at hst
    have e1 : True := trivial
    have e2 : True := trivial
    have c3D : True := trivial
    have c4F : True := trivial
    have c4X : True := trivial
    by_cases hlt : f.length < s.length
    ·rw [decide_eq_true hlt] at hst
     simp only [Bool.and_true, Bool.true_and, Bool.false_and, if_true, if_false, Bool.false_eq_true] at hst
     repeat' first|simp (disch:=first|omega|assumption|decide) only[go_sem,hm,hz,ht,hr_,g0,g1,g6,g7,g8,hix,c1F,c1D,e1,e2,c3D,c4F,c4X]|(apply ifP_in<;>intro)
     exact ⟨i + 1, ⟨by rw [hst], rfl, by omega⟩, by omega⟩
    ·rw [decide_eq_false hlt, Bool.and_false] at hst
     simp only [if_false, Bool.false_eq_true] at hst
     repeat' first|simp (disch:=first|omega|assumption|decide) only[go_sem,hm,hz,ht,hr_,g0,g1,g6,g7,g8,hix,c1F,c1D,e1,e2,c3D,c4F,c4X]|(apply ifP_in<;>intro)
     exact ⟨i + 1, ⟨by rw [hst], rfl, by omega⟩, by omega⟩
   ·have c1F : (s = name) = False := eq_false c1
    have c1D : decide (s = name) = false := decide_eq_false c1
    by_cases c2 : s.length < name.length
    ·rw [okS_parts c1 c2] at hst
     have e1 : ((name.length : Int) - (s.length : Int)).toNat = name.length - s.length := by omega
     have e2 : ix name ((name.length : Int) - (s.length : Int) - 1) = name.getD (name.length - s.length - 1) 0 := by
      unfold ix
      rw [show ((name.length : Int) - (s.length : Int) - 1).toNat = name.length - s.length - 1 by omega]
      rfl
     by_cases c3 : name.drop (name.length - s.length) = s
     ·have c3D : decide (name.drop (name.length - s.length) = s) = true := decide_eq_true c3
      rw [c3D, Bool.true_and] at hst
      generalize name.getD (name.length - s.length - 1) 0 = x at *
      have hxb : x.toNat < 256 := x.toNat_lt
      by_cases c4 : x = 46
      ·have c4X : decide (x = 46) = true := decide_eq_true c4
       have c4F : (x.toNat : Int) = 46 := by rw [c4]; rfl
       rw [c4X] at hst
       by_cases hlt : f.length < s.length
       ·rw [decide_eq_true hlt] at hst
        simp only [Bool.and_true, Bool.true_and, Bool.false_and, if_true, if_false, Bool.false_eq_true] at hst
        repeat' first|simp (disch:=first|omega|assumption|decide) only[go_sem,hm,hz,ht,hr_,g0,g1,g6,g7,g8,hix,c1F,c1D,e1,e2,c3D,c4F,c4X]|(apply ifP_in<;>intro)
        exact ⟨i + 1, ⟨by rw [hst], rfl, by omega⟩, by omega⟩
       ·rw [decide_eq_false hlt, Bool.and_false] at hst
        simp only [if_false, Bool.false_eq_true] at hst
        repeat' first|simp (disch:=first|omega|assumption|decide) only[go_sem,hm,hz,ht,hr_,g0,g1,g6,g7,g8,hix,c1F,c1D,e1,e2,c3D,c4F,c4X]|(apply ifP_in<;>intro)
        exact ⟨i + 1, ⟨by rw [hst], rfl, by omega⟩, by omega⟩
      ·have c4X : decide (x = 46) = false := decide_eq_false c4
       have c4F : ¬ (x.toNat : Int) = 46 := fun h => c4 (UInt8.toNat.inj (show x.toNat = 46 by omega))
       rw [c4X] at hst
       by_cases hlt : f.length < s.length
       ·rw [decide_eq_true hlt] at hst
        simp only [Bool.and_true, Bool.true_and, Bool.false_and, if_true, if_false, Bool.false_eq_true] at hst
        repeat' first|simp (disch:=first|omega|assumption|decide) only[go_sem,hm,hz,ht,hr_,g0,g1,g6,g7,g8,hix,c1F,c1D,e1,e2,c3D,c4F,c4X]|(apply ifP_in<;>intro)
        exact ⟨i + 1, ⟨by rw [hst], rfl, by omega⟩, by omega⟩
       ·rw [decide_eq_false hlt, Bool.and_false] at hst
        simp only [if_false, Bool.false_eq_true] at hst
        repeat' first|simp (disch:=first|omega|assumption|decide) only[go_sem,hm,hz,ht,hr_,g0,g1,g6,g7,g8,hix,c1F,c1D,e1,e2,c3D,c4F,c4X]|(apply ifP_in<;>intro)
        exact ⟨i + 1, ⟨by rw [hst], rfl, by omega⟩, by omega⟩
     ·have c3D : decide (name.drop (name.length - s.length) = s) = false := decide_eq_false c3
      have c4F : True := trivial
      have c4X : True := trivial
      rw [c3D, Bool.false_and] at hst
      by_cases hlt : f.length < s.length
      ·rw [decide_eq_true hlt] at hst
       simp only [Bool.and_true, Bool.true_and, Bool.false_and, if_true, if_false, Bool.false_eq_true] at hst
       repeat' first|simp (disch:=first|omega|assumption|decide) only[go_sem,hm,hz,ht,hr_,g0,g1,g6,g7,g8,hix,c1F,c1D,e1,e2,c3D,c4F,c4X]|(apply ifP_in<;>intro)
       exact ⟨i + 1, ⟨by rw [hst], rfl, by omega⟩, by omega⟩
      ·rw [decide_eq_false hlt, Bool.and_false] at hst
       simp only [if_false, Bool.false_eq_true] at hst
       repeat' first|simp (disch:=first|omega|assumption|decide) only[go_sem,hm,hz,ht,hr_,g0,g1,g6,g7,g8,hix,c1F,c1D,e1,e2,c3D,c4F,c4X]|(apply ifP_in<;>intro)
       exact ⟨i + 1, ⟨by rw [hst], rfl, by omega⟩, by omega⟩
    ·rw [okS_no c1 c2] at hst
     have e1 : True := trivial
     have e2 : True := trivial
     have c3D : True := trivial
     have c4F : True := trivial
     have c4X : True := trivial
     by_cases hlt : f.length < s.length
     ·rw [decide_eq_true hlt] at hst
      simp only [Bool.and_true, Bool.true_and, Bool.false_and, if_true, if_false, Bool.false_eq_true] at hst
      repeat' first|simp (disch:=first|omega|assumption|decide) only[go_sem,hm,hz,ht,hr_,g0,g1,g6,g7,g8,hix,c1F,c1D,e1,e2,c3D,c4F,c4X]|(apply ifP_in<;>intro)
      exact ⟨i + 1, ⟨by rw [hst], rfl, by omega⟩, by omega⟩
     ·rw [decide_eq_false hlt, Bool.and_false] at hst
      simp only [if_false, Bool.false_eq_true] at hst
      repeat' first|simp (disch:=first|omega|assumption|decide) only[go_sem,hm,hz,ht,hr_,g0,g1,g6,g7,g8,hix,c1F,c1D,e1,e2,c3D,c4F,c4X]|(apply ifP_in<;>intro)
      exact ⟨i + 1, ⟨by rw [hst], rfl, by omega⟩, by omega⟩
  ·obtain rfl : i = l.length := by omega
   rw [List.take_length] at g7
   generalize l.foldl (Si.stepD name) [] = f at *
   by_cases cf : f = []
   ·have cfD : decide (f ≠ []) = false := by simp [cf]
    have cfT : (f = []) = True := eq_true cf
    rw [if_pos cf]
    repeat' first|simp (disch:=first|omega|assumption|decide) only[go_sem,hm,hz,ht,hr_,g0,g1,g6,g7,g8,cfD,cfT]|(apply ifP_in<;>intro)
   ·have cfD : decide (f ≠ []) = true := by simp [cf]
    have cfT : (f = []) = False := eq_false cf
    rw [if_neg cf]
    repeat' first|simp (disch:=first|omega|assumption|decide) only[go_sem,hm,hz,ht,hr_,g0,g1,g6,g7,g8,cfD,cfT]|(apply ifP_in<;>intro)
theorem suffix_re {name : List UInt8} {l : List (List UInt8)} (hn : name.length ≤ 1000000) (hl : smallS l) {Q : K (AV → Heap → Prop)} : @rF Tryz.prog cfg 41 [.str name, .sl (l.map AV.str)] H Q = Q.v (.str (Si.suffix name l)) H := rF_eq (suffix_r name l hn hl)
end Hs
end Go.Proofs
