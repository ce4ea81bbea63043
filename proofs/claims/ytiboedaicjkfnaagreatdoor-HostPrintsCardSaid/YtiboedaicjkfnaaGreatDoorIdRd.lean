/- Walks: the document's labels and names. -/
import Derived.Test.YtiboedaicjkfnaaGreatDoorIdRc
set_option linter.unusedVariables false
set_option linter.unusedSimpArgs false
namespace Go.Proofs
open Go.Lv
namespace In
open Pu Ut
variable {H : Heap}
theorem label_r (l : List Int) (hl : l.length ≤ 100000) : WF Tryz.prog cfg 76 [.sl (l.map iA)] H (fun r H' => r = .tup [.str (Id.label l).1, .i (Id.label l).2] ∧ H <+: H') := by
 have hm : ∀ d, cfg.muF 76 d = (false) := fun _ => rfl
 have hz : ∀ d, cfg.fzF 76 d = (false) := fun _ => rfl
 have ht : ∀ d, cfg.tkF 76 d = (false) := fun _ => rfl
 have hr_ : ∀ g, cfg.raw g = (g == 152 || g == 118) := fun _ => rfl
 refine rF_fn rfl rfl Tryz.func76 rfl ?_
 have hlb : Id.label l = (if (Id.plain l && !Id.marked l) = true then (Utf.asc l, 0)
 else if Id.plain l = true then (if Id.sound ((Utf.asc l).drop 4) = true then (Utf.asc l, 0) else ([], 4))
 else if Id.marked l = true then ([], 4)
 else if (Puny.encode l).2 = 0 then (Id.XNb ++ (Puny.encode l).1, 0) else ([], (Puny.encode l).2)) := rfl
 have htm := Id.text_marked l
 cases hpl : Id.plain l with
 | false =>
  rw [hpl] at hlb
  cases hmk : Id.marked l with
  | true =>
   rw [hmk] at hlb htm
   repeat' first|simp (disch:=first|omega|assumption|decide) only[go_sem,hm,hz,ht,hr_,text_re,ascii_re,marked_re,hpl,htm]|(apply ifP_in<;>intro)
   exact ⟨by rw [hlb]; rfl, List.prefix_refl _⟩
  | false =>
   rw [hmk] at hlb htm
   have hel := encode_len l
   have hx4 : ([120, 110, 45, 45] : List UInt8).length = 4 := rfl
   repeat' first|simp (disch:=first|omega|assumption|decide) only[go_sem,hm,hz,ht,hr_,text_re,ascii_re,marked_re,hpl,htm]|(apply ifP_in<;>intro)
   refine rF_use (puny_r l (by omega)) ?_
   rintro _ K4 ⟨rfl, rfl⟩
   generalize (Puny.encode l).1 = t at *
   generalize (Puny.encode l).2 = er at *
   by_cases h0 : er = 0
   ·subst h0
    repeat' first|simp (disch:=first|omega|assumption|decide) only[go_sem,hm,hz,ht,hr_]|(apply ifP_in<;>intro)
    exact ⟨by rw [hlb]; rfl, List.prefix_refl _⟩
   ·repeat' first|simp (disch:=first|omega|assumption|decide) only[go_sem,hm,hz,ht,hr_]|(apply ifP_in<;>intro)
    exact ⟨by rw [hlb]; simp [h0], List.prefix_refl _⟩
 | true =>
  have hta := Utf.text_plain (Id.plain_bnd hpl)
  rw [hpl] at hlb
  rw [hta] at htm
  cases hmk : Id.marked l with
  | false =>
   rw [hmk] at hlb htm
   repeat' first|simp (disch:=first|omega|assumption|decide) only[go_sem,hm,hz,ht,hr_,text_re,ascii_re,marked_re,hpl,htm,hta]|(apply ifP_in<;>intro)
   exact ⟨by rw [hlb]; rfl, List.prefix_refl _⟩
  | true =>
   rw [hmk] at hlb htm
   have hal : (Utf.asc l).length = l.length := by simp [Utf.asc]
   have h4 : 4 ≤ l.length := by
    have : l.take 4 = Id.XN := by simpa [Id.marked] using hmk
    have := congrArg List.length this
    simp [Id.XN] at this; omega
   generalize Utf.asc l = s at *
   have hdl := Id.decode_len (s.drop 4)
   have hso : Id.sound (s.drop 4) = (decide ((Puny.decode (s.drop 4)).2 = 0) && !Id.plain (Puny.decode (s.drop 4)).1 && !Id.marked (Puny.decode (s.drop 4)).1 && (Puny.decode (s.drop 4)).1.all (fun c => decide (Id.kind c = 1)) && decide ((Puny.encode (Puny.decode (s.drop 4)).1).2 = 0) && decide ((Puny.encode (Puny.decode (s.drop 4)).1).1 = s.drop 4)) := rfl
   repeat' first|simp (disch:=first|omega|assumption|decide) only[go_sem,hm,hz,ht,hr_,text_re,ascii_re,marked_re,hpl,htm,hta]|(apply ifP_in<;>intro)
   refine rF_use (unpuny_r (s.drop 4) (by rw [List.length_drop]; omega)) ?_
   rintro _ K5 ⟨rfl, hp⟩
   generalize (Puny.decode (s.drop 4)).1 = u at *
   generalize (Puny.decode (s.drop 4)).2 = er at *
   have htu := Id.text_marked u
   by_cases h0 : er = 0
   ·subst h0
    cases hpu : Id.plain u with
    | true =>
     rw [hpu] at hso
     repeat' first|simp (disch:=first|omega|assumption|decide) only[go_sem,hm,hz,ht,hr_,text_re,ascii_re,marked_re,hpu]|(apply ifP_in<;>intro)
     exact ⟨by rw [hlb, hso]; rfl, hp⟩
    | false =>
     rw [hpu] at hso
     cases hmu : Id.marked u with
     | true =>
      rw [hmu] at hso htu
      repeat' first|simp (disch:=first|omega|assumption|decide) only[go_sem,hm,hz,ht,hr_,text_re,ascii_re,marked_re,hpu,htu]|(apply ifP_in<;>intro)
      exact ⟨by rw [hlb, hso]; rfl, hp⟩
     | false =>
      rw [hmu] at hso htu
      repeat' first|simp (disch:=first|omega|assumption|decide) only[go_sem,hm,hz,ht,hr_,text_re,ascii_re,marked_re,hpu,htu]|(apply ifP_in<;>intro)
      refine rL_loop (σ := Nat) (fun i e H' => H' = K5 ∧ e 4 = .str s ∧ e 7 = .sl (u.map iA) ∧ e 9 = .i i ∧ i ≤ u.length ∧ ∀ c ∈ u.take i, Id.kind c = 1) (fun i => u.length - i) 0 ?_ ?_
      ·refine ⟨rfl, ?_, ?_, ?_, by omega, by simp⟩
       all_goals first | (simp (disch := first | assumption | omega) only [go_sem]; done) | (simp (disch := first | assumption | omega) only [go_sem]; rfl)
      ·rintro i e H' ⟨rfl, g4, g7, g9, i1, i2⟩
       by_cases hi : i < u.length
       ·have hix := ix_at hi
        by_cases hk : Id.kind u[i] = 1
        ·repeat' first|simp (disch:=first|omega|assumption|decide) only[go_sem,hm,hz,ht,hr_,g4,g7,g9,hix,kind_re,hk]|(apply ifP_in<;>intro)
         refine ⟨i + 1, ⟨rfl, by omega, ?_⟩, by omega⟩
         intro c hc
         rw [List.take_succ_eq_append_getElem hi, List.mem_append] at hc
         rcases hc with hc | hc
         ·exact i2 c hc
         ·simp at hc; subst hc; exact hk
        ·have hall : u.all (fun c => decide (Id.kind c = 1)) = false := by
          rw [List.all_eq_false]
          exact ⟨u[i], List.getElem_mem hi, by simp [hk]⟩
         rw [hall] at hso
         repeat' first|simp (disch:=first|omega|assumption|decide) only[go_sem,hm,hz,ht,hr_,g4,g7,g9,hix,kind_re]|(apply ifP_in<;>intro)
         exact ⟨by rw [hlb, hso]; rfl, hp⟩
       ·have : i = u.length := by omega
        subst this
        rw [List.take_length] at i2
        have hall : u.all (fun c => decide (Id.kind c = 1)) = true := by
         rw [List.all_eq_true]
         exact fun c hc => by simp [i2 c hc]
        rw [hall] at hso
        repeat' first|simp (disch:=first|omega|assumption|decide) only[go_sem,hm,hz,ht,hr_,g4,g7,g9]|(apply ifP_in<;>intro)
        refine rF_use (puny_r u (by omega)) ?_
        rintro _ K3 ⟨rfl, rfl⟩
        generalize (Puny.encode u).1 = t at *
        generalize (Puny.encode u).2 = er at *
        by_cases h0 : er = 0
        ·subst h0
         by_cases ht : t = s.drop 4
         ·rw [decide_eq_true ht] at hso
          repeat' first|simp (disch:=first|omega|assumption|decide) only[go_sem,hm,hz,ht,hr_,g4,g7,g9,ht]|(apply ifP_in<;>intro)
          ·rename_i hx
           exact absurd rfl hx
          ·exact ⟨by rw [hlb, hso]; rfl, hp⟩
         ·rw [decide_eq_false ht] at hso
          repeat' first|simp (disch:=first|omega|assumption|decide) only[go_sem,hm,hz,ht,hr_,g4,g7,g9]|(apply ifP_in<;>intro)
          exact ⟨by rw [hlb, hso]; rfl, hp⟩
        ·rw [decide_eq_false h0] at hso
         repeat' first|simp (disch:=first|omega|assumption|decide) only[go_sem,hm,hz,ht,hr_,g4,g7,g9]|(apply ifP_in<;>intro)
         exact ⟨by rw [hlb, hso]; simp, hp⟩
   ·rw [decide_eq_false h0] at hso
    repeat' first|simp (disch:=first|omega|assumption|decide) only[go_sem,hm,hz,ht,hr_,text_re,ascii_re,marked_re]|(apply ifP_in<;>intro)
    exact ⟨by rw [hlb, hso]; simp, hp⟩
theorem map_r (l : List Int) (hl : l.length ≤ 100000) : WF Tryz.prog cfg 75 [.sl (l.map iA)] H (fun r H' => r = .tup [.sl ((Id.mapG l).1.map iA), .i (Id.mapG l).2.1, .b (Id.mapG l).2.2] ∧ H' = H) := by
 have hm : ∀ d, cfg.muF 75 d = (false) := fun _ => rfl
 have hz : ∀ d, cfg.fzF 75 d = (false) := fun _ => rfl
 have ht : ∀ d, cfg.tkF 75 d = (false) := fun _ => rfl
 have hr_ : ∀ g, cfg.raw g = (g == 152 || g == 118) := fun _ => rfl
 refine rF_fn rfl rfl Tryz.func75 rfl ?_
 repeat' first|simp (disch:=first|omega|assumption|decide) only[go_sem,hm,hz,ht,hr_]|(apply ifP_in<;>intro)
 refine rL_loop (σ := Nat) (fun i e H' => H' = H ∧ e 0 = .sl (l.map iA) ∧ e 6 = .i i ∧ i ≤ l.length ∧ e 5 = .sl (((l.take i).flatMap Id.to).map iA) ∧ ∀ c ∈ l.take i, Id.kind c ≠ 4) (fun i => l.length - i) 0 ?_ ?_
 ·refine ⟨rfl, ?_, ?_, by omega, ?_, by simp⟩
  all_goals first | (simp (disch := first | assumption | omega) only [go_sem]; done) | (simp (disch := first | assumption | omega) only [go_sem]; rfl)
 ·rintro i e H' ⟨rfl, g0, g6, i1, g5, i2⟩
  by_cases hi : i < l.length
  ·have hix := ix_at hi
   have htk := to_take hi
   have htl := tos_len (l.take i)
   have htl2 : (l.take i).length ≤ i := by simp; omega
   have hba := fun h => Id.badAt_at hi i2 h 0
   have hno : Id.kind l[i] ≠ 4 → ∀ c ∈ l.take (i + 1), Id.kind c ≠ 4 := by
    intro h c hc
    rw [List.take_succ_eq_append_getElem hi, List.mem_append] at hc
    rcases hc with hc | hc
    ·exact i2 c hc
    ·simp at hc; subst hc; exact h
   have hto : Id.to l[i] = if Id.kind l[i] = 1 then [l[i]] else if Id.kind l[i] = 2 then Id.maps l[i] else [] := rfl
   have hks : Id.kind l[i] = 2 → 0 ≤ l[i] ∧ l[i] ≤ 1114111 := Id.kind_two
   generalize l[i] = c at *
   by_cases h4 : Id.kind c = 4
   ·have hmg : Id.mapG l = ([], (i : Int), false) := by unfold Id.mapG; rw [hba h4]; simp
    repeat' first|simp (disch:=first|omega|assumption|decide) only[go_sem,hm,hz,ht,hr_,g0,g6,g5,hix,kind_re,h4]|(apply ifP_in<;>intro)
    rw [hmg]; rfl
   ·have hno := hno h4
    by_cases h1 : Id.kind c = 1
    ·rw [if_pos h1] at hto
     rw [hto] at htk
     repeat' first|simp (disch:=first|omega|assumption|decide) only[go_sem,hm,hz,ht,hr_,g0,g6,g5,hix,kind_re,h1]|(apply ifP_in<;>intro)
     refine ⟨i + 1, ⟨rfl, by omega, ?_, hno⟩, by omega⟩
     rw [htk]
    ·rw [if_neg h1] at hto
     by_cases h2 : Id.kind c = 2
     ·rw [if_pos h2] at hto
      rw [hto] at htk
      have hml := maps_len c
      obtain ⟨b1, b2⟩ := hks h2
      repeat' first|simp (disch:=first|omega|assumption|decide) only[go_sem,hm,hz,ht,hr_,g0,g6,g5,hix,kind_re,h2,rto_re]|(apply ifP_in<;>intro)
      refine ⟨i + 1, ⟨rfl, by omega, ?_, hno⟩, by omega⟩
      rw [htk]
     ·rw [if_neg h2] at hto
      rw [hto, List.append_nil] at htk
      repeat' first|simp (disch:=first|omega|assumption|decide) only[go_sem,hm,hz,ht,hr_,g0,g6,g5,hix,kind_re]|(apply ifP_in<;>intro)
      refine ⟨i + 1, ⟨rfl, by omega, ?_, hno⟩, by omega⟩
      rw [htk]
  ·have : i = l.length := by omega
   subst this
   rw [List.take_length] at g5 i2
   have hmg : Id.mapG l = (l.flatMap Id.to, 0, true) := by unfold Id.mapG; rw [Id.badAt_none.2 i2]
   repeat' first|simp (disch:=first|omega|assumption|decide) only[go_sem,hm,hz,ht,hr_,g0,g6,g5]|(apply ifP_in<;>intro)
   rw [hmg]
theorem map_re (l : List Int) (hl : l.length ≤ 100000) {Q : K (AV → Heap → Prop)} : @rF Tryz.prog cfg 75 [.sl (l.map iA)] H Q = Q.v (.tup [.sl ((Id.mapG l).1.map iA), .i (Id.mapG l).2.1, .b (Id.mapG l).2.2]) H := rF_eq (map_r l hl)
end In
end Go.Proofs
