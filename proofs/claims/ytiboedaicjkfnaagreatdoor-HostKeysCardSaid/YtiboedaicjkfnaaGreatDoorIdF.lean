/- Walks: fold.Map, slices.Index, cut. -/
import Derived.Test.YtiboedaicjkfnaaGreatDoorIdE
set_option linter.unusedVariables false
set_option linter.unusedSimpArgs false
namespace Go.Proofs
open Go.Lv
namespace In
open Pu
variable {H : Heap}
theorem index_w (l : List Int) (v : Int) (hl : l.length ≤ 140737488355328) : WF Tryz.prog cfg 89 [.sl (l.map iA), .i v] H (fun r H' => ∃ k : Int, r = .i k ∧ H' = H ∧ (k = -1 ∧ v ∉ l ∨ ∃ n : Nat, k = n ∧ n < l.length ∧ l[n]? = some v ∧ v ∉ l.take n)) := by
 have hm : ∀ d, cfg.muF 89 d = (false) := fun _ => rfl
 have hz : ∀ d, cfg.fzF 89 d = (false) := fun _ => rfl
 have ht : ∀ d, cfg.tkF 89 d = (false) := fun _ => rfl
 have hr_ : ∀ g, cfg.raw g = (g == 152 || g == 118) := fun _ => rfl
 refine rF_fn rfl rfl Tryz.func89 rfl ?_
 repeat' first|simp (disch:=first|omega|assumption|decide) only[go_sem,hm,hz,ht,hr_]|(apply ifP_in<;>intro)
 refine rL_loop (σ := Nat) (fun i e H' => H' = H ∧ e 0 = .sl (l.map iA) ∧ e 1 = .i v ∧ e 7 = .i l.length ∧ e 8 = .i i ∧ i ≤ l.length ∧ v ∉ l.take i) (fun i => l.length - i) 0 ?_ ?_
 ·refine ⟨rfl, ?_, ?_, ?_, ?_, by omega, by simp⟩
  all_goals first | (simp (disch := first | assumption | omega) only [go_sem]; done) | (simp (disch := first | assumption | omega) only [go_sem]; rfl)
 ·rintro i e H' ⟨rfl, g0, g1, g7, g8, i1, i2⟩
  by_cases hi : i < l.length
  ·have hix := ix_at hi
   by_cases hv : v = l[i]
   ·subst hv
    repeat' first|simp (disch:=first|omega|assumption|decide) only[go_sem,hm,hz,ht,hr_,g0,g1,g7,g8,hix]|(apply ifP_in<;>intro)
    exact ⟨i, rfl, .inr ⟨i, rfl, hi, xgE hi, i2⟩⟩
   ·repeat' first|simp (disch:=first|omega|assumption|decide) only[go_sem,hm,hz,ht,hr_,g0,g1,g7,g8,hix]|(apply ifP_in<;>intro)
    refine ⟨i + 1, ⟨rfl, by omega, ?_⟩, by omega⟩
    rw [List.take_succ_eq_append_getElem hi]
    simp only [List.mem_append, List.mem_singleton, not_or]
    exact ⟨i2, hv⟩
  ·have : i = l.length := by omega
   subst this
   rw [List.take_length] at i2
   repeat' first|simp (disch:=first|omega|assumption|decide) only[go_sem,hm,hz,ht,hr_,g0,g1,g7,g8]|(apply ifP_in<;>intro)
   exact ⟨-1, rfl, .inl ⟨rfl, i2⟩⟩
theorem cut_w (l : List Int) (hl : l.length ≤ 1000000) : WF Tryz.prog cfg 58 [.sl (l.map iA)] H (fun r H' => r = .sl ((Sp.split 46 l).map fun x => AV.sl (x.map iA)) ∧ H' = H) := by
 have hm : ∀ d, cfg.muF 58 d = (false) := fun _ => rfl
 have hz : ∀ d, cfg.fzF 58 d = (false) := fun _ => rfl
 have ht : ∀ d, cfg.tkF 58 d = (false) := fun _ => rfl
 have hr_ : ∀ g, cfg.raw g = (g == 152 || g == 118) := fun _ => rfl
 refine rF_fn rfl rfl Tryz.func58 rfl ?_
 repeat' first|simp (disch:=first|omega|assumption|decide) only[go_sem,hm,hz,ht,hr_]|(apply ifP_in<;>intro)
 refine rL_loop (σ := List (List Int) × List Int) (fun z e H' => H' = H ∧ e 0 = .sl (z.2.map iA) ∧ e 3 = .sl (z.1.map fun x => AV.sl (x.map iA)) ∧ Sp.split 46 l = z.1 ++ Sp.split 46 z.2 ∧ z.1.length + z.2.length ≤ l.length) (fun z => z.2.length) ([], l) ?_ ?_
 ·refine ⟨rfl, ?_, ?_, by simp, by simp⟩
  all_goals first | (simp (disch := first | assumption | omega) only [go_sem]; done) | (simp (disch := first | assumption | omega) only [go_sem]; rfl)
 ·rintro ⟨a, q⟩ e H' ⟨rfl, g0, g3, i1, i2⟩
  simp only at g0 g3 i1 i2
  repeat' first|simp (disch:=first|omega|assumption|decide) only[go_sem,hm,hz,ht,hr_,g0,g3]|(apply ifP_in<;>intro)
  refine rF_use (index_w q 46 (by omega)) ?_
  rintro _ K ⟨k, rfl, rfl, hk⟩
  rcases hk with ⟨rfl, hk⟩ | ⟨n, rfl, hn, hk1, hk2⟩
  ·repeat' first|simp (disch:=first|omega|assumption|decide) only[go_sem,hm,hz,ht,hr_,g0,g3]|(apply ifP_in<;>intro)
   rw [i1, Sp.split_none hk]
  ·have hs : Sp.split 46 q = q.take n :: Sp.split 46 (q.drop (n + 1)) := by
    have : q = q.take n ++ 46 :: q.drop (n + 1) := by
     conv => lhs; rw [← List.take_append_drop n q]
     congr 1
     rw [List.drop_eq_getElem_cons hn]
     congr 1
     rw [xgE hn] at hk1
     injection hk1
    conv => lhs; rw [this]
    exact Sp.split_append hk2
   rw [hs] at i1
   repeat' first|simp (disch:=first|omega|assumption|decide) only[go_sem,hm,hz,ht,hr_,g0,g3]|(apply ifP_in<;>intro)
   refine ⟨(a ++ [q.take n], q.drop (n + 1)), ⟨?_, ?_, ?_, ?_⟩, ?_⟩
   ·simp
   ·simp
   ·rw [i1]; simp
   ·simp; omega
   ·simp; omega
theorem to_take {l : List Int} {i : Nat} (h : i < l.length) : (l.take (i + 1)).flatMap Id.to = (l.take i).flatMap Id.to ++ Id.to l[i] := by
 rw [List.take_succ_eq_append_getElem h, List.flatMap_append]; simp
theorem to_len (c : Int) : (Id.to c).length ≤ 2 := by
 unfold Id.to
 repeat' split
 ·simp
 ·exact maps_len c
 ·simp
theorem tos_len (l : List Int) : (l.flatMap Id.to).length ≤ 2 * l.length := by
 induction l with
 | nil => simp
 | cons c l ih => have := to_len c; rw [List.flatMap_cons, List.length_append, List.length_cons]; omega
theorem map_w (l : List Int) (hl : l.length ≤ 100000) : WF Tryz.prog cfg 57 [.sl (l.map iA)] H (fun r H' => r = .tup [.sl ((Id.mapG l).1.map iA), .i (Id.mapG l).2.1, .b (Id.mapG l).2.2] ∧ H' = H) := by
 have hm : ∀ d, cfg.muF 57 d = (false) := fun _ => rfl
 have hz : ∀ d, cfg.fzF 57 d = (false) := fun _ => rfl
 have ht : ∀ d, cfg.tkF 57 d = (false) := fun _ => rfl
 have hr_ : ∀ g, cfg.raw g = (g == 152 || g == 118) := fun _ => rfl
 refine rF_fn rfl rfl Tryz.func57 rfl ?_
 repeat' first|simp (disch:=first|omega|assumption|decide) only[go_sem,hm,hz,ht,hr_]|(apply ifP_in<;>intro)
 refine rL_loop (σ := Nat) (fun i e H' => H' = H ∧ e 8 = .sl (l.map iA) ∧ e 9 = .i l.length ∧ e 10 = .i i ∧ i ≤ l.length ∧ e 5 = .sl (((l.take i).flatMap Id.to).map iA) ∧ ∀ c ∈ l.take i, Id.kind c ≠ 4) (fun i => l.length - i) 0 ?_ ?_
 ·refine ⟨rfl, ?_, ?_, ?_, by omega, ?_, by simp⟩
  all_goals first | (simp (disch := first | assumption | omega) only [go_sem]; done) | (simp (disch := first | assumption | omega) only [go_sem]; rfl)
 ·rintro i e H' ⟨rfl, g8, g9, g10, i1, g5, i2⟩
  by_cases hi : i < l.length
  ·have hix := ix_at hi
   have htk := to_take hi
   have htl := tos_len (l.take i)
   have htl2 : (l.take i).length ≤ i := by simp; omega
   have hba := fun h => Id.badAt_at hi i2 h 0
   have hno : Id.kind l[i] ≠ 4 → ∀ c ∈ l.take (i + 1), Id.kind c ≠ 4 := by
    intro h c hc
    rw [List.take_succ_eq_append_getElem hi, List.mem_append] at hc
    rcases hc with hc | hc
    ·exact i2 c hc
    ·simp at hc; subst hc; exact h
   have hto : Id.to l[i] = if Id.kind l[i] = 1 then [l[i]] else if Id.kind l[i] = 2 then Id.maps l[i] else [] := rfl
   generalize l[i] = c at *
   repeat' first|simp (disch:=first|omega|assumption|decide) only[go_sem,hm,hz,ht,hr_,g8,g9,g10,g5,hix]|(apply ifP_in<;>intro)
   refine rF_use (kind_w c) ?_
   rintro _ K ⟨rfl, rfl⟩
   by_cases h4 : Id.kind c = 4
   ·have hmg : Id.mapG l = ([], (i : Int), false) := by unfold Id.mapG; rw [hba h4]; simp
    repeat' first|simp (disch:=first|omega|assumption|decide) only[go_sem,hm,hz,ht,hr_,g8,g9,g10,g5,hix,h4]|(apply ifP_in<;>intro)
    rw [hmg]; rfl
   ·have hno := hno h4
    by_cases h1 : Id.kind c = 1
    ·rw [if_pos h1] at hto
     rw [hto] at htk
     repeat' first|simp (disch:=first|omega|assumption|decide) only[go_sem,hm,hz,ht,hr_,g8,g9,g10,g5,hix,h1]|(apply ifP_in<;>intro)
     refine ⟨i + 1, ⟨rfl, by omega, ?_, hno⟩, by omega⟩
     rw [htk]
    ·rw [if_neg h1] at hto
     by_cases h2 : Id.kind c = 2
     ·rw [if_pos h2] at hto
      rw [hto] at htk
      have hml := maps_len c
      repeat' first|simp (disch:=first|omega|assumption|decide) only[go_sem,hm,hz,ht,hr_,g8,g9,g10,g5,hix,h2]|(apply ifP_in<;>intro)
      refine rF_use (maps_w c) ?_
      rintro _ K ⟨rfl, rfl⟩
      repeat' first|simp (disch:=first|omega|assumption|decide) only[go_sem,hm,hz,ht,hr_,g8,g9,g10,g5,hix,h2]|(apply ifP_in<;>intro)
      refine rF_use (concat_w [(l.take i).flatMap Id.to, Id.maps c] (by simp) (by show (_ ++ (_ ++ [])).length ≤ _; simp only [List.append_nil, List.length_append]; omega)) ?_
      rintro _ K2 ⟨rfl, rfl⟩
      repeat' first|simp (disch:=first|omega|assumption|decide) only[go_sem,hm,hz,ht,hr_,g8,g9,g10,g5,hix,h2]|(apply ifP_in<;>intro)
      refine ⟨i + 1, ⟨rfl, by omega, ?_, hno⟩, by omega⟩
      rw [htk]; simp
     ·rw [if_neg h2] at hto
      rw [hto, List.append_nil] at htk
      repeat' first|simp (disch:=first|omega|assumption|decide) only[go_sem,hm,hz,ht,hr_,g8,g9,g10,g5,hix]|(apply ifP_in<;>intro)
      refine ⟨i + 1, ⟨rfl, by omega, ?_, hno⟩, by omega⟩
      rw [htk]
  ·have : i = l.length := by omega
   subst this
   rw [List.take_length] at g5 i2
   have hmg : Id.mapG l = (l.flatMap Id.to, 0, true) := by unfold Id.mapG; rw [Id.badAt_none.2 i2]
   repeat' first|simp (disch:=first|omega|assumption|decide) only[go_sem,hm,hz,ht,hr_,g8,g9,g10,g5]|(apply ifP_in<;>intro)
   rw [hmg]
end In
end Go.Proofs
