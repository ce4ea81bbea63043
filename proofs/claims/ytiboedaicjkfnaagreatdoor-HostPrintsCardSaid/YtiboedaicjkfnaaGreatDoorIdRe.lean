/- Walks: the document's names; texts cut. -/
import Derived.Test.YtiboedaicjkfnaaGreatDoorIdRd
set_option linter.unusedVariables false
set_option linter.unusedSimpArgs false
namespace Go.Proofs
open Go.Lv
namespace In
open Pu Ut
variable {H : Heap}
theorem toASCII_r (l : List Int) (hl : l.length ≤ 140737488355328) : WF Tryz.prog cfg 50 [.sl (l.map iA)] H (fun r H' => r = .tup [.str (Id.toASCII l).1, .i (Id.toASCII l).2] ∧ H <+: H') := by
 have hm : ∀ d, cfg.muF 50 d = (false) := fun _ => rfl
 have hz : ∀ d, cfg.fzF 50 d = (false) := fun _ => rfl
 have ht : ∀ d, cfg.tkF 50 d = (false) := fun _ => rfl
 have hr_ : ∀ g, cfg.raw g = (g == 152 || g == 118) := fun _ => rfl
 refine rF_fn rfl rfl Tryz.func50 rfl ?_
 have hta : Id.toASCII l = (if 256 < l.length then ([], 11)
 else if (Id.mapG l).2.2 = false then ([], 4)
 else if (Id.labels (Sp.split 46 (Id.mapG l).1)).2 ≠ 0 then ([], (Id.labels (Sp.split 46 (Id.mapG l).1)).2)
 else if 253 < (Sp.join [46] (Id.labels (Sp.split 46 (Id.mapG l).1)).1).length then ([], 3)
 else (Sp.join [46] (Id.labels (Sp.split 46 (Id.mapG l).1)).1, 0)) := rfl
 by_cases hlim : 256 < l.length
 ·rw [if_pos hlim] at hta
  repeat' first|simp (disch:=first|omega|assumption|decide) only[go_sem,hm,hz,ht,hr_]|(apply ifP_in<;>intro)
  exact ⟨by rw [hta], List.prefix_refl _⟩
 ·rw [if_neg hlim] at hta
  have hml := mapG_len l
  cases hok : (Id.mapG l).2.2 with
  | false =>
   rw [hok] at hta
   repeat' first|simp (disch:=first|omega|assumption|decide) only[go_sem,hm,hz,ht,hr_,map_re,hok]|(apply ifP_in<;>intro)
   exact ⟨by rw [hta]; rfl, List.prefix_refl _⟩
  | true =>
   rw [hok, if_neg (by simp)] at hta
   repeat' first|simp (disch:=first|omega|assumption|decide) only[go_sem,hm,hz,ht,hr_,map_re,hok]|(apply ifP_in<;>intro)
   generalize (Id.mapG l).1 = m at *
   obtain ⟨p, hpd⟩ : ∃ p, p = Sp.split 46 m := ⟨_, rfl⟩
   rw [← hpd] at hta
   have hsl := Sp.split_len_le (c := 46) m
   have hspl := Sp.split_part_len (c := 46) m
   rw [← hpd] at hsl hspl
   refine rL_loop (σ := List (List Int) × Nat × Nat) (fun z e H' => H <+: H' ∧ e 4 = .sl (m.map iA) ∧ e 9 = .i z.2.2 ∧ e 8 = .i z.2.1 ∧ e 7 = .str (Sp.join [46] (z.1.map fun x => (Id.label x).1)) ∧ z.2.1 ≤ z.2.2 ∧ z.2.2 ≤ m.length + 1 ∧ 46 ∉ (m.take z.2.2).drop z.2.1 ∧ (z.2.2 ≤ m.length → p = z.1 ++ Sp.split 46 (m.drop z.2.1)) ∧ (z.2.2 = m.length + 1 → p = z.1) ∧ (z.2.1 = 0 ↔ z.1 = []) ∧ ∀ x ∈ z.1, (Id.label x).2 = 0) (fun z => m.length + 1 - z.2.2) ([], 0, 0) ?_ ?_
   ·refine ⟨List.prefix_refl _, ?_, ?_, ?_, ?_, by simp, by simp, by simp, by simp [hpd], by simp, by simp, by simp⟩
    all_goals first | (simp (disch := first | assumption | omega) only [go_sem]; done) | (simp (disch := first | assumption | omega) only [go_sem]; rfl)
   ·rintro ⟨a, fr, i⟩ e H' ⟨hp, g4, g9, g8, g7, j1, j2, j3, j4, j5, j6, j7⟩
    simp only at g4 g9 g8 g7 j1 j2 j3 j4 j5 j6 j7
    by_cases hil : i ≤ m.length
    ·have j4 := j4 hil
     have hap : ∀ x ∈ a, x.length ≤ 512 := fun x hx => by
      have := hspl x (by rw [j4]; simp [hx]); omega
     have hal : a.length ≤ 513 := by
      have := congrArg List.length j4
      rw [List.length_append] at this; omega
     have hjl : (Sp.join [46] (a.map fun x => (Id.label x).1)).length ≤ (a.map fun x => (Id.label x).1).length * (3616 + [(46 : UInt8)].length) := Sp.join_len_i [46] 3616 _ (by
      intro y hy
      obtain ⟨x, hx, rfl⟩ := List.mem_map.1 hy
      have := label_len x
      have := hap x hx
      omega)
     simp only [List.length_map, List.length_singleton] at hjl
     have hx1 : ([46] : List UInt8).length = 1 := rfl
     by_cases hlt : i < m.length ∧ ¬ m[i]?.getD 0 = 46
     ·obtain ⟨hlt, hne⟩ := hlt
      have hix := ix_at hlt
      rw [xgE hlt, Option.getD_some] at hne
      repeat' first|simp (disch:=first|omega|assumption|decide) only[go_sem,hm,hz,ht,hr_,g4,g9,g8,g7,hix]|(apply ifP_in<;>intro)
      refine ⟨(a, fr, i + 1), ⟨hp, rfl, rfl, rfl, by simp only; omega, by simp only; omega, ?_, fun _ => j4, fun h => by simp only at h; omega, j6, j7⟩, by simp only; omega⟩
      simp only
      rw [List.take_succ_eq_append_getElem hlt, List.drop_append_of_le_length (by simp; omega), List.mem_append, not_or]
      exact ⟨j3, by simp; exact fun h => hne h.symm⟩
     ·have hpc : ∀ r, m.drop fr = (m.take i).drop fr ++ r → p = a ++ Sp.split 46 ((m.take i).drop fr ++ r) := fun r h => by rw [← h]; exact j4
      have hmd : m.drop fr = (m.take i).drop fr ++ m.drop i := by
       conv => lhs; rw [← List.take_append_drop i m]
       rw [List.drop_append_of_le_length (by simp; omega)]
      have hpl : ((m.take i).drop fr).length ≤ 512 := by simp; omega
      have hll := label_len ((m.take i).drop fr)
      have hjs := Sp.join_snoc [46] (a.map fun x => (Id.label x).1) (Id.label ((m.take i).drop fr)).1
      rw [← List.map_singleton (f := fun x => (Id.label x).1) , ← List.map_append] at hjs
      simp only [List.map_eq_nil_iff] at hjs
      have hdec : ∃ r, p = a ++ (m.take i).drop fr :: r ∧ (i = m.length → r = []) ∧ (i < m.length → r = Sp.split 46 (m.drop (i + 1))) := by
       by_cases h2 : i < m.length
       ·have h46 : m[i] = 46 := by
         by_cases h : m[i] = 46
         ·exact h
         ·exact absurd ⟨h2, by rw [xgE h2]; exact h⟩ hlt
        refine ⟨_, ?_, fun h => by omega, fun _ => rfl⟩
        rw [j4, hmd, List.drop_eq_getElem_cons h2, h46, Sp.split_append j3]
       ·have he : i = m.length := by omega
        refine ⟨[], ?_, fun _ => rfl, fun h => by omega⟩
        rw [j4, hmd, he, List.drop_length, List.append_nil, Sp.split_none (by rw [he] at j3; exact j3)]
      obtain ⟨r, hd1, hd2, hd3⟩ := hdec
      have herr := Id.labels_err' (a := a) (x := (m.take i).drop fr) (r := r) j7
      rw [← hd1] at herr
      have hnx : (Id.label ((m.take i).drop fr)).2 = 0 → ∀ x ∈ a ++ [(m.take i).drop fr], (Id.label x).2 = 0 := by
       intro h x hx
       rcases List.mem_append.1 hx with hx | hx
       ·exact j7 x hx
       ·simp at hx; subst hx; exact h
      clear hpc hmd
      obtain ⟨x, hx⟩ : ∃ x, x = (m.take i).drop fr := ⟨_, rfl⟩
      rw [← hx] at j3 hpl hll hjs hd1 herr hnx
      by_cases h2 : i < m.length
      ·have hix := ix_at h2
       have h46 : m[i] = 46 := by
        by_cases h : m[i] = 46
        ·exact h
        ·exact absurd ⟨h2, by rw [xgE h2]; exact h⟩ hlt
       repeat' first|simp (disch:=first|omega|assumption|decide) only[go_sem,hm,hz,ht,hr_,g4,g9,g8,g7,hix,h46]|(apply ifP_in<;>intro)
       rw [← hx]
       refine rF_use (label_r x (by omega)) ?_
       rintro _ K3 ⟨rfl, hp3⟩
       by_cases h0 : (Id.label x).2 = 0
       ·have hnx2 := hnx h0
        by_cases hf : fr = 0
        ·rw [if_pos (j6.1 hf)] at hjs
         have ha0 := j6.1 hf
         subst ha0
         have hn0 : ([] : List UInt8).length = 0 := rfl
         have hjn : Sp.join [46] ([] : List (List UInt8)) = [] := rfl
         repeat' first|simp (disch:=first|omega|assumption|decide) only[go_sem,hm,hz,ht,hr_,g4,g9,g8,g7,h0,hjn]|(apply ifP_in<;>intro)
         refine ⟨([] ++ [x], i + 1, i + 1), ⟨hp.trans hp3, rfl, rfl, ?_, by simp only; omega, by simp only; omega, ?_, ?_, ?_, by simp, hnx2⟩, by simp only; omega⟩
         ·simp only; rw [hjs]; simp [Sp.join]
         ·simp
         ·intro h; simp only at h ⊢; rw [hd1, hd3 (by omega)]; simp
         ·intro h; simp only at h ⊢; rw [hd1, hd2 (by omega)]
        ·rw [if_neg (fun h => hf (j6.2 h))] at hjs
         have hjx : (Sp.join [46] (a.map fun x => (Id.label x).1) ++ [46]).length = (Sp.join [46] (a.map fun x => (Id.label x).1)).length + 1 := by rw [List.length_append, List.length_singleton]
         repeat' first|simp (disch:=first|omega|assumption|decide) only[go_sem,hm,hz,ht,hr_,g4,g9,g8,g7,h0]|(apply ifP_in<;>intro)
         refine ⟨(a ++ [x], i + 1, i + 1), ⟨hp.trans hp3, rfl, rfl, ?_, by simp only; omega, by simp only; omega, ?_, ?_, ?_, by simp, hnx2⟩, by simp only; omega⟩
         ·simp only; rw [hjs]
         ·simp
         ·intro h; simp only at h ⊢; rw [hd1, hd3 (by omega)]; simp
         ·intro h; simp only at h ⊢; rw [hd1, hd2 (by omega)]
       ·rw [herr h0, if_pos h0] at hta
        repeat' first|simp (disch:=first|omega|assumption|decide) only[go_sem,hm,hz,ht,hr_,g4,g9,g8,g7,h0]|(apply ifP_in<;>intro)
        exact ⟨by rw [hta], hp.trans hp3⟩
      ·repeat' first|simp (disch:=first|omega|assumption|decide) only[go_sem,hm,hz,ht,hr_,g4,g9,g8,g7]|(apply ifP_in<;>intro)
       rw [← hx]
       refine rF_use (label_r x (by omega)) ?_
       rintro _ K3 ⟨rfl, hp3⟩
       by_cases h0 : (Id.label x).2 = 0
       ·have hnx2 := hnx h0
        by_cases hf : fr = 0
        ·rw [if_pos (j6.1 hf)] at hjs
         have ha0 := j6.1 hf
         subst ha0
         have hn0 : ([] : List UInt8).length = 0 := rfl
         have hjn : Sp.join [46] ([] : List (List UInt8)) = [] := rfl
         repeat' first|simp (disch:=first|omega|assumption|decide) only[go_sem,hm,hz,ht,hr_,g4,g9,g8,g7,h0,hjn]|(apply ifP_in<;>intro)
         refine ⟨([] ++ [x], i + 1, i + 1), ⟨hp.trans hp3, rfl, rfl, ?_, by simp only; omega, by simp only; omega, ?_, ?_, ?_, by simp, hnx2⟩, by simp only; omega⟩
         ·simp only; rw [hjs]; simp [Sp.join]
         ·simp
         ·intro h; simp only at h ⊢; rw [hd1, hd3 (by omega)]; simp
         ·intro h; simp only at h ⊢; rw [hd1, hd2 (by omega)]
        ·rw [if_neg (fun h => hf (j6.2 h))] at hjs
         have hjx : (Sp.join [46] (a.map fun x => (Id.label x).1) ++ [46]).length = (Sp.join [46] (a.map fun x => (Id.label x).1)).length + 1 := by rw [List.length_append, List.length_singleton]
         repeat' first|simp (disch:=first|omega|assumption|decide) only[go_sem,hm,hz,ht,hr_,g4,g9,g8,g7,h0]|(apply ifP_in<;>intro)
         refine ⟨(a ++ [x], i + 1, i + 1), ⟨hp.trans hp3, rfl, rfl, ?_, by simp only; omega, by simp only; omega, ?_, ?_, ?_, by simp, hnx2⟩, by simp only; omega⟩
         ·simp only; rw [hjs]
         ·simp
         ·intro h; simp only at h ⊢; rw [hd1, hd3 (by omega)]; simp
         ·intro h; simp only at h ⊢; rw [hd1, hd2 (by omega)]
       ·rw [herr h0, if_pos h0] at hta
        repeat' first|simp (disch:=first|omega|assumption|decide) only[go_sem,hm,hz,ht,hr_,g4,g9,g8,g7,h0]|(apply ifP_in<;>intro)
        exact ⟨by rw [hta], hp.trans hp3⟩
    ·have he : i = m.length + 1 := by omega
     have hpa := j5 he
     subst hpa
     rw [Id.labels_ok j7, if_neg (by simp)] at hta
     simp only at hta
     generalize Sp.join [46] (p.map fun x => (Id.label x).1) = s at *
     by_cases hs : 253 < s.length
     ·rw [if_pos hs] at hta
      repeat' first|simp (disch:=first|omega|assumption|decide) only[go_sem,hm,hz,ht,hr_,g4,g9,g8,g7]|(apply ifP_in<;>intro)
      exact ⟨by rw [hta], hp⟩
     ·rw [if_neg hs] at hta
      repeat' first|simp (disch:=first|omega|assumption|decide) only[go_sem,hm,hz,ht,hr_,g4,g9,g8,g7]|(apply ifP_in<;>intro)
      exact ⟨by rw [hta], hp⟩
end In
end Go.Proofs
