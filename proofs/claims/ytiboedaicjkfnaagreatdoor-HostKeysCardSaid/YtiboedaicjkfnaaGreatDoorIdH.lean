/- Walks: labels; names. -/
import Derived.Test.YtiboedaicjkfnaaGreatDoorIdG
set_option linter.unusedVariables false
set_option linter.unusedSimpArgs false
namespace Go.Proofs
open Go.Lv
namespace In
open Pu
variable {H : Heap}
theorem label_w (l : List Int) (hl : l.length ≤ 100000) : WF Tryz.prog cfg 59 [.sl (l.map iA)] H (fun r H' => r = .tup [.str (Id.label l).1, .i (Id.label l).2] ∧ H <+: H') := by
 have hm : ∀ d, cfg.muF 59 d = (false) := fun _ => rfl
 have hz : ∀ d, cfg.fzF 59 d = (false) := fun _ => rfl
 have ht : ∀ d, cfg.tkF 59 d = (false) := fun _ => rfl
 have hr_ : ∀ g, cfg.raw g = (g == 152 || g == 118) := fun _ => rfl
 refine rF_fn rfl rfl Tryz.func59 rfl ?_
 have hlb : Id.label l = (if (Id.plain l && !Id.marked l) = true then (Utf.asc l, 0)
 else if Id.plain l = true then (if Id.sound ((Utf.asc l).drop 4) = true then (Utf.asc l, 0) else ([], 4))
 else if Id.marked l = true then ([], 4)
 else if (Puny.encode l).2 = 0 then (Id.XNb ++ (Puny.encode l).1, 0) else ([], (Puny.encode l).2)) := rfl
 repeat' first|simp (disch:=first|omega|assumption|decide) only[go_sem,hm,hz,ht,hr_]|(apply ifP_in<;>intro)
 refine rF_use (plain_w l (by omega)) ?_
 rintro _ K1 ⟨rfl, rfl⟩
 cases hpl : Id.plain l with
 | true =>
  have hta := Utf.text_plain (Id.plain_bnd hpl)
  rw [hpl] at hlb
  repeat' first|simp (disch:=first|omega|assumption|decide) only[go_sem,hm,hz,ht,hr_]|(apply ifP_in<;>intro)
  refine rF_use (marked_w l (by omega)) ?_
  rintro _ K2 ⟨rfl, rfl⟩
  cases hmk : Id.marked l with
  | true =>
   rw [hmk] at hlb
   repeat' first|simp (disch:=first|omega|assumption|decide) only[go_sem,hm,hz,ht,hr_]|(apply ifP_in<;>intro)
   refine rF_use (plain_w l (by omega)) ?_
   rintro _ K3 ⟨rfl, rfl⟩
   rw [hpl]
   repeat' first|simp (disch:=first|omega|assumption|decide) only[go_sem,hm,hz,ht,hr_]|(apply ifP_in<;>intro)
   refine rF_use (Ut.text_w l hl) ?_
   rintro _ K4 ⟨rfl, rfl⟩
   rw [hta]
   have hal : (Utf.asc l).length = l.length := by simp [Utf.asc]
   have h4 : 4 ≤ l.length := by
    have : l.take 4 = Id.XN := by simpa [Id.marked] using hmk
    have := congrArg List.length this
    simp [Id.XN] at this; omega
   repeat' first|simp (disch:=first|omega|assumption|decide) only[go_sem,hm,hz,ht,hr_]|(apply ifP_in<;>intro)
   refine rF_use (sound_w ((Utf.asc l).drop 4) (by simp; omega)) ?_
   rintro _ K5 ⟨rfl, hp⟩
   cases hso : Id.sound ((Utf.asc l).drop 4) with
   | true =>
    rw [hso] at hlb
    repeat' first|simp (disch:=first|omega|assumption|decide) only[go_sem,hm,hz,ht,hr_]|(apply ifP_in<;>intro)
    exact ⟨by rw [hlb]; rfl, hp⟩
   | false =>
    rw [hso] at hlb
    repeat' first|simp (disch:=first|omega|assumption|decide) only[go_sem,hm,hz,ht,hr_]|(apply ifP_in<;>intro)
    exact ⟨by rw [hlb]; rfl, hp⟩
  | false =>
   rw [hmk] at hlb
   repeat' first|simp (disch:=first|omega|assumption|decide) only[go_sem,hm,hz,ht,hr_]|(apply ifP_in<;>intro)
   refine rF_use (Ut.text_w l hl) ?_
   rintro _ K4 ⟨rfl, rfl⟩
   rw [hta]
   repeat' first|simp (disch:=first|omega|assumption|decide) only[go_sem,hm,hz,ht,hr_]|(apply ifP_in<;>intro)
   exact ⟨by rw [hlb]; rfl, List.prefix_refl _⟩
 | false =>
  rw [hpl] at hlb
  repeat' first|simp (disch:=first|omega|assumption|decide) only[go_sem,hm,hz,ht,hr_]|(apply ifP_in<;>intro)
  refine rF_use (plain_w l (by omega)) ?_
  rintro _ K3 ⟨rfl, rfl⟩
  rw [hpl]
  repeat' first|simp (disch:=first|omega|assumption|decide) only[go_sem,hm,hz,ht,hr_]|(apply ifP_in<;>intro)
  refine rF_use (marked_w l (by omega)) ?_
  rintro _ K2 ⟨rfl, rfl⟩
  cases hmk : Id.marked l with
  | true =>
   rw [hmk] at hlb
   repeat' first|simp (disch:=first|omega|assumption|decide) only[go_sem,hm,hz,ht,hr_]|(apply ifP_in<;>intro)
   exact ⟨by rw [hlb]; rfl, List.prefix_refl _⟩
  | false =>
   rw [hmk] at hlb
   have hel := encode_len l
   have hx4 : ([120, 110, 45, 45] : List UInt8).length = 4 := rfl
   repeat' first|simp (disch:=first|omega|assumption|decide) only[go_sem,hm,hz,ht,hr_]|(apply ifP_in<;>intro)
   refine rF_use (encode_w l (by omega)) ?_
   rintro _ K4 ⟨rfl, rfl⟩
   generalize (Puny.encode l).1 = t at *
   generalize (Puny.encode l).2 = er at *
   by_cases h0 : er = 0
   ·subst h0
    repeat' first|simp (disch:=first|omega|assumption|decide) only[go_sem,hm,hz,ht,hr_]|(apply ifP_in<;>intro)
    exact ⟨by rw [hlb]; rfl, List.prefix_refl _⟩
   ·repeat' first|simp (disch:=first|omega|assumption|decide) only[go_sem,hm,hz,ht,hr_]|(apply ifP_in<;>intro)
    exact ⟨by rw [hlb]; simp [h0], List.prefix_refl _⟩
theorem label_len (l : List Int) : (Id.label l).1.length ≤ l.length + 3104 := by
 have hel := encode_len l
 unfold Id.label
 repeat' split
 all_goals simp [Utf.asc, Id.XNb]
 omega
theorem mapG_len (l : List Int) : (Id.mapG l).1.length ≤ 2 * l.length := by
 have := tos_len l
 unfold Id.mapG
 split
 ·simp
 ·exact this
theorem toASCII_w (l : List Int) (hl : l.length ≤ 140737488355328) : WF Tryz.prog cfg 31 [.sl (l.map iA)] H (fun r H' => r = .tup [.str (Id.toASCII l).1, .i (Id.toASCII l).2] ∧ H <+: H') := by
 have hm : ∀ d, cfg.muF 31 d = (false) := fun _ => rfl
 have hz : ∀ d, cfg.fzF 31 d = (false) := fun _ => rfl
 have ht : ∀ d, cfg.tkF 31 d = (false) := fun _ => rfl
 have hr_ : ∀ g, cfg.raw g = (g == 152 || g == 118) := fun _ => rfl
 refine rF_fn rfl rfl Tryz.func31 rfl ?_
 have hta : Id.toASCII l = (if 256 < l.length then ([], 11)
 else if (Id.mapG l).2.2 = false then ([], 4)
 else if (Id.labels (Sp.split 46 (Id.mapG l).1)).2 ≠ 0 then ([], (Id.labels (Sp.split 46 (Id.mapG l).1)).2)
 else if 253 < (Sp.join [46] (Id.labels (Sp.split 46 (Id.mapG l).1)).1).length then ([], 3)
 else (Sp.join [46] (Id.labels (Sp.split 46 (Id.mapG l).1)).1, 0)) := rfl
 by_cases hlim : 256 < l.length
 ·rw [if_pos hlim] at hta
  repeat' first|simp (disch:=first|omega|assumption|decide) only[go_sem,hm,hz,ht,hr_]|(apply ifP_in<;>intro)
  exact ⟨by rw [hta], List.prefix_refl _⟩
 ·rw [if_neg hlim] at hta
  have hml := mapG_len l
  repeat' first|simp (disch:=first|omega|assumption|decide) only[go_sem,hm,hz,ht,hr_]|(apply ifP_in<;>intro)
  refine rF_use (map_w l (by omega)) ?_
  rintro _ K1 ⟨rfl, rfl⟩
  generalize (Id.mapG l).1 = m at *
  generalize (Id.mapG l).2.1 = at_ at *
  cases hok : (Id.mapG l).2.2 with
  | false =>
   rw [hok] at hta
   repeat' first|simp (disch:=first|omega|assumption|decide) only[go_sem,hm,hz,ht,hr_]|(apply ifP_in<;>intro)
   exact ⟨by rw [hta]; rfl, List.prefix_refl _⟩
  | true =>
   rw [hok, if_neg (by simp)] at hta
   repeat' first|simp (disch:=first|omega|assumption|decide) only[go_sem,hm,hz,ht,hr_]|(apply ifP_in<;>intro)
   refine rF_use (cut_w m (by omega)) ?_
   rintro _ K2 ⟨rfl, rfl⟩
   have hsl := Sp.split_len_le (c := 46) m
   have hsp := Sp.split_part_len (c := 46) m
   generalize Sp.split 46 m = p at *
   repeat' first|simp (disch:=first|omega|assumption|decide) only[go_sem,hm,hz,ht,hr_]|(apply ifP_in<;>intro)
   refine rL_loop (σ := Nat) (fun i e H' => K2 <+: H' ∧ e 24 = .sl (p.map fun x => AV.sl (x.map iA)) ∧ e 25 = .i p.length ∧ e 26 = .i i ∧ e 6 = .sl (((p.take i).map fun x => (Id.label x).1).map AV.str) ∧ i ≤ p.length ∧ ∀ x ∈ p.take i, (Id.label x).2 = 0) (fun i => p.length - i) 0 ?_ ?_
   ·refine ⟨List.prefix_refl _, ?_, ?_, ?_, ?_, by omega, by simp⟩
    all_goals first | (simp (disch := first | assumption | omega) only [go_sem]; done) | (simp (disch := first | assumption | omega) only [go_sem]; rfl)
   ·rintro i e H' ⟨hp, g24, g25, g26, g6, i1, i2⟩
    by_cases hi : i < p.length
    ·have hix := ix_at hi
     have hle := fun h => Id.labels_err hi i2 h
     have hpl := hsp _ (List.getElem_mem hi)
     have htk : (p.take (i + 1)).map (fun x => (Id.label x).1) = (p.take i).map (fun x => (Id.label x).1) ++ [(Id.label p[i]).1] := by
      rw [List.take_succ_eq_append_getElem hi, List.map_append]; rfl
     have hnx : (Id.label p[i]).2 = 0 → ∀ x ∈ p.take (i + 1), (Id.label x).2 = 0 := by
      intro h x hx
      rw [List.take_succ_eq_append_getElem hi, List.mem_append] at hx
      rcases hx with hx | hx
      ·exact i2 x hx
      ·simp at hx; subst hx; exact h
     have htl : ((p.take i).map fun x => (Id.label x).1).length ≤ i := by simp; omega
     generalize (p.take i).map (fun x => (Id.label x).1) = q at *
     generalize p[i] = x at *
     repeat' first|simp (disch:=first|omega|assumption|decide) only[go_sem,hm,hz,ht,hr_,g24,g25,g26,g6,hix]|(apply ifP_in<;>intro)
     refine rF_use (label_w x (by omega)) ?_
     rintro _ K3 ⟨rfl, hp3⟩
     by_cases h0 : (Id.label x).2 = 0
     ·have hnx2 := hnx h0
      clear hnx
      generalize (Id.label x).1 = t at *
      generalize (Id.label x).2 = er at *
      subst h0
      repeat' first|simp (disch:=first|omega|assumption|decide) only[go_sem,hm,hz,ht,hr_,g24,g25,g26,g6,hix]|(apply ifP_in<;>intro)
      refine ⟨i + 1, ⟨hp.trans hp3, ?_⟩, by omega⟩
      rw [htk]
      exact ⟨rfl, rfl, by omega, hnx2⟩
     ·rw [hle h0, if_pos h0] at hta
      repeat' first|simp (disch:=first|omega|assumption|decide) only[go_sem,hm,hz,ht,hr_,g24,g25,g26,g6,hix,h0]|(apply ifP_in<;>intro)
      exact ⟨by rw [hta], hp.trans hp3⟩
    ·have : i = p.length := by omega
     subst this
     rw [List.take_length] at g6 i2
     rw [Id.labels_ok i2, if_neg (by simp)] at hta
     have hjl : (Sp.join [46] (p.map fun x => (Id.label x).1)).length ≤ (p.map fun x => (Id.label x).1).length * (3616 + [(46 : UInt8)].length) := join_len [46] 3616 _ (by
      intro y hy
      obtain ⟨x, hx, rfl⟩ := List.mem_map.1 hy
      have := label_len x
      have := hsp x hx
      omega)
     simp only [List.length_map, List.length_singleton] at hjl
     repeat' first|simp (disch:=first|omega|assumption|decide) only[go_sem,hm,hz,ht,hr_,g24,g25,g26,g6]|(apply ifP_in<;>intro)
     refine rF_use (WF.ext (g := fun args H => joinT H args) rfl (join_run (by omega) (by simp; omega)) (Q := fun r K => r = AV.str (Sp.join [46] (p.map fun x => (Id.label x).1)) ∧ K = H') ⟨rfl, rfl⟩) ?_
     rintro _ K4 ⟨rfl, rfl⟩
     simp only at hta
     generalize Sp.join [46] (p.map fun x => (Id.label x).1) = s at *
     by_cases hs : 253 < s.length
     ·rw [if_pos hs] at hta
      repeat' first|simp (disch:=first|omega|assumption|decide) only[go_sem,hm,hz,ht,hr_,g24,g25,g26,g6]|(apply ifP_in<;>intro)
      exact ⟨by rw [hta], hp⟩
     ·rw [if_neg hs] at hta
      repeat' first|simp (disch:=first|omega|assumption|decide) only[go_sem,hm,hz,ht,hr_,g24,g25,g26,g6]|(apply ifP_in<;>intro)
      exact ⟨by rw [hta], hp⟩
end In
end Go.Proofs
