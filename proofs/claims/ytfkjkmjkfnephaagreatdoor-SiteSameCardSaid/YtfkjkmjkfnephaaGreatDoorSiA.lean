/- Walks: the last place of a sign; ends of texts; whose suffix a name has. -/
import Derived.Test.YtfkjkmjkfnephaaGreatDoorUrAllax0
import Derived.Test.YtfkjkmjkfnephaaGreatDoorSiLaw
set_option linter.unusedVariables false
set_option linter.unusedSimpArgs false
namespace Go.Proofs
open Go.Lv
namespace Hs
open Pu Ut Utf In
variable {H : Heap}
theorem lastIx_w (s : List UInt8) (c : UInt8) (hs : s.length ≤ 140737488355328) : WF Tryz.prog cfg 21 [.str s, byteA c] H (fun r H' => r = .i ((Si.lastIx c s s.length : Nat) - 1) ∧ H' = H) := by
 have hm : ∀ d, cfg.muF 21 d = (false) := fun _ => rfl
 have hz : ∀ d, cfg.fzF 21 d = (false) := fun _ => rfl
 have ht : ∀ d, cfg.tkF 21 d = (false) := fun _ => rfl
 have hr_ : ∀ g, cfg.raw g = (g == 147 || g == 130 || g == 57) := fun _ => rfl
 refine rF_fn rfl rfl Tryz.func21 rfl ?_
 have hcb : c.toNat < 256 := c.toNat_lt
 obtain ⟨D, hD⟩ : ∃ D, D = Si.lastIx c s s.length := ⟨_, rfl⟩
 rw [← hD]
 repeat' first|simp (disch:=first|omega|assumption|decide) only[go_sem,hm,hz,ht,hr_]|(apply ifP_in<;>intro)
 refine rL_loop (σ := Nat) (fun k e H' => H' = H ∧ e 0 = .str s ∧ e 1 = byteA c ∧ e 5 = .i ((k : Int) - 1) ∧ k ≤ s.length ∧ D = Si.lastIx c s k) (fun k => k) s.length ?_ ?_
 ·refine ⟨rfl, ?_, ?_, ?_, by omega, hD⟩
  all_goals first | (simp (disch := first | assumption | omega) only [go_sem]; done) | (simp (disch := first | assumption | omega) only [go_sem]; rfl)
 ·rintro k e H' ⟨rfl, g0, g1, g5, i1, hd⟩
  cases k with
  | zero =>
   have hd : D = 0 := hd
   subst hd
   repeat' first|simp (disch:=first|omega|assumption|decide) only[go_sem,hm,hz,ht,hr_,g0,g1,g5]|(apply ifP_in<;>intro)
   all_goals rfl
  | succ k =>
   have hk : ((k + 1 : Nat) : Int) - 1 = k := by omega
   rw [hk] at g5
   have hlt : k < s.length := by omega
   have hix := ix_at hlt
   have hgd : s.getD k 0 = s[k] := by rw [xgD, xgE hlt]; rfl
   unfold Si.lastIx at hd
   rw [hgd] at hd
   by_cases hc : s[k] = c
   ·rw [if_pos hc] at hd
    subst hd
    have hk2 : ((k + 1 : Nat) : Int) - 1 = k := by omega
    rw [hk2]
    repeat' first|simp (disch:=first|omega|assumption|decide) only[go_sem,hm,hz,ht,hr_,g0,g1,g5,hix,hc]|(apply ifP_in<;>intro)
   ·rw [if_neg hc] at hd
    have hci : ¬ ((s[k].toNat : Int) = (c.toNat : Int)) := fun h => hc (UInt8.toNat.inj (by omega))
    repeat' first|simp (disch:=first|omega|assumption|decide) only[go_sem,hm,hz,ht,hr_,g0,g1,g5,hix,hci]|(apply ifP_in<;>intro)
    exact ⟨k, ⟨rfl, by omega, hd⟩, by omega⟩
theorem lastIx_e (s : List UInt8) (c : UInt8) (hs : s.length ≤ 140737488355328) {Q : K (AV → Heap → Prop)} : @rF Tryz.prog cfg 21 [.str s, byteA c] H Q = Q.v (.i ((Si.lastIx c s s.length : Nat) - 1)) H := rF_eq (lastIx_w s c hs)
theorem last_w (s : List UInt8) (c : UInt8) (hs : s.length ≤ 140737488355328) : WF Tryz.prog cfg 14 [.str s, byteA c] H (fun r H' => r = .i ((Si.lastIx c s s.length : Nat) - 1) ∧ H' = H) := by
 have hm : ∀ d, cfg.muF 14 d = (false) := fun _ => rfl
 have hz : ∀ d, cfg.fzF 14 d = (false) := fun _ => rfl
 have ht : ∀ d, cfg.tkF 14 d = (false) := fun _ => rfl
 have hr_ : ∀ g, cfg.raw g = (g == 147 || g == 130 || g == 57) := fun _ => rfl
 refine rF_fn rfl rfl Tryz.func14 rfl ?_
 have he := fun {Q : K (AV → Heap → Prop)} => lastIx_e (H := H) s c hs (Q := Q)
 repeat' first|simp (disch:=first|omega|assumption|decide) only[go_sem,hm,hz,ht,hr_,he]|(apply ifP_in<;>intro)
theorem last_e {s : List UInt8} {c : UInt8} (hs : s.length ≤ 140737488355328) {Q : K (AV → Heap → Prop)} : @rF Tryz.prog cfg 14 [.str s, byteA c] H Q = Q.v (.i ((Si.lastIx c s s.length : Nat) - 1)) H := rF_eq (last_w s c hs)
def hsuf (s x : List UInt8) : Bool := decide (x.length ≤ s.length) && decide (s.drop (s.length - x.length) = x)
theorem hsufl_w (s x : List UInt8) (hs : s.length ≤ 140737488355328) (hx : x.length ≤ 140737488355328) : WF Tryz.prog cfg 22 [.str s, .str x] H (fun r H' => r = .b (hsuf s x) ∧ H' = H) := by
 have hm : ∀ d, cfg.muF 22 d = (false) := fun _ => rfl
 have hz : ∀ d, cfg.fzF 22 d = (false) := fun _ => rfl
 have ht : ∀ d, cfg.tkF 22 d = (false) := fun _ => rfl
 have hr_ : ∀ g, cfg.raw g = (g == 147 || g == 130 || g == 57) := fun _ => rfl
 refine rF_fn rfl rfl Tryz.func22 rfl ?_
 unfold hsuf
 by_cases h : x.length ≤ s.length
 ·rw [decide_eq_true h, Bool.true_and]
  have e : ((s.length : Int) - (x.length : Int)).toNat = s.length - x.length := by omega
  repeat' first|simp (disch:=first|omega|assumption|decide) only[go_sem,hm,hz,ht,hr_,e]|(apply ifP_in<;>intro)
 ·rw [decide_eq_false h, Bool.false_and]
  repeat' first|simp (disch:=first|omega|assumption|decide) only[go_sem,hm,hz,ht,hr_]|(apply ifP_in<;>intro)
theorem hsufl_e {s x : List UInt8} (hs : s.length ≤ 140737488355328) (hx : x.length ≤ 140737488355328) {Q : K (AV → Heap → Prop)} : @rF Tryz.prog cfg 22 [.str s, .str x] H Q = Q.v (.b (hsuf s x)) H := rF_eq (hsufl_w s x hs hx)
theorem hsuf_w (s x : List UInt8) (hs : s.length ≤ 140737488355328) (hx : x.length ≤ 140737488355328) : WF Tryz.prog cfg 15 [.str s, .str x] H (fun r H' => r = .b (hsuf s x) ∧ H' = H) := by
 have hm : ∀ d, cfg.muF 15 d = (false) := fun _ => rfl
 have hz : ∀ d, cfg.fzF 15 d = (false) := fun _ => rfl
 have ht : ∀ d, cfg.tkF 15 d = (false) := fun _ => rfl
 have hr_ : ∀ g, cfg.raw g = (g == 147 || g == 130 || g == 57) := fun _ => rfl
 refine rF_fn rfl rfl Tryz.func15 rfl ?_
 repeat' first|simp (disch:=first|omega|assumption|decide) only[go_sem,hm,hz,ht,hr_,hsufl_e]|(apply ifP_in<;>intro)
theorem hsuf_e {s x : List UInt8} (hs : s.length ≤ 140737488355328) (hx : x.length ≤ 140737488355328) {Q : K (AV → Heap → Prop)} : @rF Tryz.prog cfg 15 [.str s, .str x] H Q = Q.v (.b (hsuf s x)) H := rF_eq (hsuf_w s x hs hx)
theorem okS_hsuf (name s : List UInt8) : Si.okS name s = (decide (s = name) || hsuf name ([46] ++ s)) := by
 unfold Si.okS hsuf
 have e1 : (([46] : List UInt8) ++ s).length = s.length + 1 := by simp
 rw [e1]
 congr 2
 all_goals (rw [Bool.eq_iff_iff, decide_eq_true_iff, decide_eq_true_iff]; omega)
theorem lastLabel_e (s : List UInt8) : s.drop (((Si.lastIx 46 s s.length : Nat) : Int) - 1 + 1).toNat = Si.lastLabel s := by
 rw [Si.lastLabel_ix]
 congr 1
 omega
def smallS (l : List (List UInt8)) : Prop := l.length ≤ 100 ∧ ∀ x ∈ l, x.length ≤ 300
theorem stepP_len (name : List UInt8) : ∀ (l : List (List UInt8)) (p : List UInt8 × Bool), p.1.length ≤ 1000000 → (∀ x ∈ l, x.length ≤ 300) → (l.foldl (Si.stepP name) p).1.length ≤ 1000000 := by
 intro l
 induction l with
 | nil => intro p h _; exact h
 | cons x l ih =>
  intro p h hx
  rw [List.foldl_cons]
  refine ih _ ?_ (fun y hy => hx y (by simp [hy]))
  unfold Si.stepP
  split
  ·have := hx x (by simp); simp only; omega
  ·exact h
theorem suffix_w (name : List UInt8) (l : List (List UInt8)) (hn : name.length ≤ 1000000) (hl : smallS l) : WF Tryz.prog cfg 8 [.str name, .sl (l.map AV.str)] H (fun r H' => r = .str (Si.suffix name l) ∧ H' = H) := by
 obtain ⟨h1, h2⟩ := hl
 have hm : ∀ d, cfg.muF 8 d = (false) := fun _ => rfl
 have hz : ∀ d, cfg.fzF 8 d = (false) := fun _ => rfl
 have ht : ∀ d, cfg.tkF 8 d = (false) := fun _ => rfl
 have hr_ : ∀ g, cfg.raw g = (g == 147 || g == 130 || g == 57) := fun _ => rfl
 refine rF_fn rfl rfl Tryz.func8 rfl ?_
 rw [← Si.suffix_alike]
 have hll := lastLabel_e name
 have hle := Si.lastIx_le 46 name name.length
 have h46 : byteA 46 = AV.v (.int .u8 46) := rfl
 have hla := fun {Q : K (AV → Heap → Prop)} => last_e (H := H) (s := name) (c := 46) (by omega) (Q := Q)
 rw [h46] at hla
 generalize Si.lastIx 46 name name.length = ix0 at *
 have hlb : (Si.lastLabel name).length ≤ 1000000 := by rw [← hll]; simp; omega
 repeat' first|simp (disch:=first|omega|assumption|decide) only[go_sem,hm,hz,ht,hr_,hla,hll]|(apply ifP_in<;>intro)
 refine rL_loop (σ := Nat) (fun i e H' => H' = H ∧ e 0 = .str name ∧ e 14 = .sl (l.map AV.str) ∧ e 15 = .i l.length ∧ e 16 = .i i ∧ e 5 = .str ((l.take i).foldl (Si.stepP name) (Si.lastLabel name, false)).1 ∧ e 6 = .b ((l.take i).foldl (Si.stepP name) (Si.lastLabel name, false)).2 ∧ i ≤ l.length) (fun i => l.length - i) 0 ?_ ?_
 ·refine ⟨rfl, ?_, ?_, ?_, ?_, ?_, ?_, by omega⟩
  all_goals first | (simp (disch := first | assumption | omega) only [go_sem, hll]; done) | (simp (disch := first | assumption | omega) only [go_sem, hll]; rfl)
 ·rintro i e H' ⟨rfl, g0, g14, g15, g16, g5, g6, i1⟩
  by_cases hi : i < l.length
  ·have hix := ix_at hi
   have hst : (l.take (i + 1)).foldl (Si.stepP name) (Si.lastLabel name, false) = Si.stepP name ((l.take i).foldl (Si.stepP name) (Si.lastLabel name, false)) l[i] := by
    rw [List.take_succ_eq_append_getElem hi, List.foldl_append]; rfl
   have hbl := stepP_len name (l.take i) (Si.lastLabel name, false) hlb (fun x hx => h2 x (List.mem_of_mem_take hx))
   have hsl := h2 _ (List.getElem_mem hi)
   generalize (l.take i).foldl (Si.stepP name) (Si.lastLabel name, false) = st at *
   obtain ⟨best, found⟩ := st
   simp only at g5 g6 hbl
   generalize l[i] = s at *
   have hP : Si.stepP name (best, found) s = (if (Si.okS name s && (!found || decide (best.length < s.length))) = true then (s, true) else (best, found)) := rfl
   rw [hP, okS_hsuf] at hst
   by_cases c1 : s = name
   ·have c1F : (s = name) = True := eq_true c1
    have c1D : decide (s = name) = true := decide_eq_true c1
    have hh : True := trivial
    rw [c1D] at hst
    cases found
    ·rw [Bool.not_false, Bool.true_or] at hst
     simp only [Bool.and_true, Bool.true_and, Bool.false_and, if_true, if_false, Bool.false_eq_true, Bool.true_or, Bool.false_or, Bool.or_false] at hst
     repeat' first|simp (disch := first | omega | assumption | decide | (simp only [List.length_append,List.length_cons,List.length_nil]; omega)) only [go_sem,hm,hz,ht,hr_,g0,g14,g15,g16,g5,g6,hix,c1F,c1D,hsuf_e,hh,wdl,bind_some_,map_some_,oneD_fold]|(apply ifP_in<;>intro)
     exact ⟨i + 1, ⟨rfl, by rw [hst], by rw [hst], by omega⟩, by omega⟩
    ·by_cases hlt : best.length < s.length
     ·rw [decide_eq_true hlt] at hst
      simp only [Bool.not_true, Bool.false_or, Bool.and_true, Bool.true_and, Bool.false_and, if_true, if_false, Bool.false_eq_true, Bool.true_or, Bool.or_false] at hst
      repeat' first|simp (disch := first | omega | assumption | decide | (simp only [List.length_append,List.length_cons,List.length_nil]; omega)) only [go_sem,hm,hz,ht,hr_,g0,g14,g15,g16,g5,g6,hix,c1F,c1D,hsuf_e,hh,wdl,bind_some_,map_some_,oneD_fold]|(apply ifP_in<;>intro)
      exact ⟨i + 1, ⟨rfl, by rw [hst], by rw [hst], by omega⟩, by omega⟩
     ·rw [decide_eq_false hlt] at hst
      simp only [Bool.not_true, Bool.false_or, Bool.and_false, if_false, Bool.false_eq_true] at hst
      repeat' first|simp (disch := first | omega | assumption | decide | (simp only [List.length_append,List.length_cons,List.length_nil]; omega)) only [go_sem,hm,hz,ht,hr_,g0,g14,g15,g16,g5,g6,hix,c1F,c1D,hsuf_e,hh,wdl,bind_some_,map_some_,oneD_fold]|(apply ifP_in<;>intro)
      exact ⟨i + 1, ⟨rfl, by rw [hst], by rw [hst], by omega⟩, by omega⟩
   ·have c1F : (s = name) = False := eq_false c1
    have c1D : decide (s = name) = false := decide_eq_false c1
    rw [c1D] at hst
    cases hh : hsuf name ([46] ++ s)
    ·rw [hh] at hst
     cases found
     ·rw [Bool.not_false, Bool.true_or] at hst
      simp only [Bool.and_true, Bool.true_and, Bool.false_and, if_true, if_false, Bool.false_eq_true, Bool.true_or, Bool.false_or, Bool.or_false] at hst
      repeat' first|simp (disch := first | omega | assumption | decide | (simp only [List.length_append,List.length_cons,List.length_nil]; omega)) only [go_sem,hm,hz,ht,hr_,g0,g14,g15,g16,g5,g6,hix,c1F,c1D,hsuf_e,hh,wdl,bind_some_,map_some_,oneD_fold]|(apply ifP_in<;>intro)
      exact ⟨i + 1, ⟨rfl, by rw [hst], by rw [hst], by omega⟩, by omega⟩
     ·by_cases hlt : best.length < s.length
      ·rw [decide_eq_true hlt] at hst
       simp only [Bool.not_true, Bool.false_or, Bool.and_true, Bool.true_and, Bool.false_and, if_true, if_false, Bool.false_eq_true, Bool.true_or, Bool.or_false] at hst
       repeat' first|simp (disch := first | omega | assumption | decide | (simp only [List.length_append,List.length_cons,List.length_nil]; omega)) only [go_sem,hm,hz,ht,hr_,g0,g14,g15,g16,g5,g6,hix,c1F,c1D,hsuf_e,hh,wdl,bind_some_,map_some_,oneD_fold]|(apply ifP_in<;>intro)
       exact ⟨i + 1, ⟨rfl, by rw [hst], by rw [hst], by omega⟩, by omega⟩
      ·rw [decide_eq_false hlt] at hst
       simp only [Bool.not_true, Bool.false_or, Bool.and_false, if_false, Bool.false_eq_true] at hst
       repeat' first|simp (disch := first | omega | assumption | decide | (simp only [List.length_append,List.length_cons,List.length_nil]; omega)) only [go_sem,hm,hz,ht,hr_,g0,g14,g15,g16,g5,g6,hix,c1F,c1D,hsuf_e,hh,wdl,bind_some_,map_some_,oneD_fold]|(apply ifP_in<;>intro)
       exact ⟨i + 1, ⟨rfl, by rw [hst], by rw [hst], by omega⟩, by omega⟩
    ·rw [hh] at hst
     cases found
     ·rw [Bool.not_false, Bool.true_or] at hst
      simp only [Bool.and_true, Bool.true_and, Bool.false_and, if_true, if_false, Bool.false_eq_true, Bool.true_or, Bool.false_or, Bool.or_false] at hst
      repeat' first|simp (disch := first | omega | assumption | decide | (simp only [List.length_append,List.length_cons,List.length_nil]; omega)) only [go_sem,hm,hz,ht,hr_,g0,g14,g15,g16,g5,g6,hix,c1F,c1D,hsuf_e,hh,wdl,bind_some_,map_some_,oneD_fold]|(apply ifP_in<;>intro)
      exact ⟨i + 1, ⟨rfl, by rw [hst], by rw [hst], by omega⟩, by omega⟩
     ·by_cases hlt : best.length < s.length
      ·rw [decide_eq_true hlt] at hst
       simp only [Bool.not_true, Bool.false_or, Bool.and_true, Bool.true_and, Bool.false_and, if_true, if_false, Bool.false_eq_true, Bool.true_or, Bool.or_false] at hst
       repeat' first|simp (disch := first | omega | assumption | decide | (simp only [List.length_append,List.length_cons,List.length_nil]; omega)) only [go_sem,hm,hz,ht,hr_,g0,g14,g15,g16,g5,g6,hix,c1F,c1D,hsuf_e,hh,wdl,bind_some_,map_some_,oneD_fold]|(apply ifP_in<;>intro)
       exact ⟨i + 1, ⟨rfl, by rw [hst], by rw [hst], by omega⟩, by omega⟩
      ·rw [decide_eq_false hlt] at hst
       simp only [Bool.not_true, Bool.false_or, Bool.and_false, if_false, Bool.false_eq_true] at hst
       repeat' first|simp (disch := first | omega | assumption | decide | (simp only [List.length_append,List.length_cons,List.length_nil]; omega)) only [go_sem,hm,hz,ht,hr_,g0,g14,g15,g16,g5,g6,hix,c1F,c1D,hsuf_e,hh,wdl,bind_some_,map_some_,oneD_fold]|(apply ifP_in<;>intro)
       exact ⟨i + 1, ⟨rfl, by rw [hst], by rw [hst], by omega⟩, by omega⟩
  ·obtain rfl : i = l.length := by omega
   rw [List.take_length] at g5
   repeat' first|simp (disch:=first|omega|assumption|decide) only[go_sem,hm,hz,ht,hr_,g0,g14,g15,g16,g5]|(apply ifP_in<;>intro)
theorem suffix_we {name : List UInt8} {l : List (List UInt8)} (hn : name.length ≤ 1000000) (hl : smallS l) {Q : K (AV → Heap → Prop)} : @rF Tryz.prog cfg 8 [.str name, .sl (l.map AV.str)] H Q = Q.v (.str (Si.suffix name l)) H := rF_eq (suffix_w name l hn hl)
theorem registered_w (name : List UInt8) (l : List (List UInt8)) (hn : name.length ≤ 1000000) (hl : smallS l) : WF Tryz.prog cfg 16 [.str name, .sl (l.map AV.str)] H (fun r H' => r = .str (Si.reg name l) ∧ H' = H) := by
 have hm : ∀ d, cfg.muF 16 d = (false) := fun _ => rfl
 have hz : ∀ d, cfg.fzF 16 d = (false) := fun _ => rfl
 have ht : ∀ d, cfg.tkF 16 d = (false) := fun _ => rfl
 have hr_ : ∀ g, cfg.raw g = (g == 147 || g == 130 || g == 57) := fun _ => rfl
 refine rF_fn rfl rfl Tryz.func16 rfl ?_
 have hsw := fun {Q : K (AV → Heap → Prop)} => suffix_we (H := H) hn hl (Q := Q)
 have h46 : byteA 46 = AV.v (.int .u8 46) := rfl
 by_cases c : (Si.suffix name l).length = name.length
 ·have he : Si.reg name l = name := by unfold Si.reg; rw [if_pos c]
  rw [he]
  generalize Si.suffix name l = s at *
  repeat' first|simp (disch:=first|omega|assumption|decide) only[go_sem,hm,hz,ht,hr_,hsw]|(apply ifP_in<;>intro)
 ·obtain ⟨r1, r2⟩ := Si.reg_alike name l c
  generalize Si.suffix name l = s at *
  obtain ⟨ah, hah⟩ : ∃ ah, ah = name.take (name.length - s.length - 1) := ⟨_, rfl⟩
  rw [← hah] at r2
  have hal : ah.length = name.length - s.length - 1 := by rw [hah, List.length_take]; omega
  have hle := Si.lastIx_le 46 ah ah.length
  have hla := fun {Q : K (AV → Heap → Prop)} => last_e (H := H) (s := ah) (c := 46) (by omega) (Q := Q)
  rw [h46] at hla
  have e1 : ((name.length : Int) - (s.length : Int) - 1).toNat = name.length - s.length - 1 := by omega
  generalize Si.lastIx 46 ah ah.length = x0 at *
  have e2 : ((x0 : Int) - 1 + 1).toNat = x0 := by omega
  repeat' first|simp (disch:=first|omega|assumption|decide) only[go_sem,hm,hz,ht,hr_,hsw,e1,← hah,hla,e2,r2]|(apply ifP_in<;>intro)
end Hs
end Go.Proofs
