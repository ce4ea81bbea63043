/- Walks: what stands behind the mark; labels; names. -/
import Derived.Test.YtiboedaicjkfnaaGreatDoorIdF
set_option linter.unusedVariables false
set_option linter.unusedSimpArgs false
namespace Go.Proofs
open Go.Lv
namespace In
open Pu
variable {H : Heap}
theorem sound_w (s : List UInt8) (hs : s.length ≤ 140737488355328) : WF Tryz.prog cfg 93 [.str s] H (fun r H' => r = .b (Id.sound s) ∧ H <+: H') := by
 have hm : ∀ d, cfg.muF 93 d = (false) := fun _ => rfl
 have hz : ∀ d, cfg.fzF 93 d = (false) := fun _ => rfl
 have ht : ∀ d, cfg.tkF 93 d = (false) := fun _ => rfl
 have hr_ : ∀ g, cfg.raw g = (g == 152 || g == 118) := fun _ => rfl
 refine rF_fn rfl rfl Tryz.func93 rfl ?_
 have hdl := Id.decode_len s
 have hso : Id.sound s = (decide ((Puny.decode s).2 = 0) && !Id.plain (Puny.decode s).1 && !Id.marked (Puny.decode s).1 && (Puny.decode s).1.all (fun c => decide (Id.kind c = 1)) && decide ((Puny.encode (Puny.decode s).1).2 = 0) && decide ((Puny.encode (Puny.decode s).1).1 = s)) := rfl
 repeat' first|simp (disch:=first|omega|assumption|decide) only[go_sem,hm,hz,ht,hr_]|(apply ifP_in<;>intro)
 refine rF_use (decode_w s hs) ?_
 rintro _ K ⟨rfl, hp⟩
 generalize (Puny.decode s).1 = l at *
 generalize (Puny.decode s).2 = er at *
 by_cases h0 : er = 0
 ·subst h0
  repeat' first|simp (disch:=first|omega|assumption|decide) only[go_sem,hm,hz,ht,hr_]|(apply ifP_in<;>intro)
  refine rF_use (plain_w l (by omega)) ?_
  rintro _ K1 ⟨rfl, rfl⟩
  cases hpl : Id.plain l with
  | true =>
   rw [hpl] at hso
   repeat' first|simp (disch:=first|omega|assumption|decide) only[go_sem,hm,hz,ht,hr_]|(apply ifP_in<;>intro)
   exact ⟨by rw [hso]; simp, hp⟩
  | false =>
   rw [hpl] at hso
   repeat' first|simp (disch:=first|omega|assumption|decide) only[go_sem,hm,hz,ht,hr_]|(apply ifP_in<;>intro)
   refine rF_use (marked_w l (by omega)) ?_
   rintro _ K2 ⟨rfl, rfl⟩
   cases hmk : Id.marked l with
   | true =>
    rw [hmk] at hso
    repeat' first|simp (disch:=first|omega|assumption|decide) only[go_sem,hm,hz,ht,hr_]|(apply ifP_in<;>intro)
    exact ⟨by rw [hso]; simp, hp⟩
   | false =>
    rw [hmk] at hso
    repeat' first|simp (disch:=first|omega|assumption|decide) only[go_sem,hm,hz,ht,hr_]|(apply ifP_in<;>intro)
    refine rL_loop (σ := Nat) (fun i e H' => H' = K2 ∧ e 0 = .str s ∧ e 3 = .sl (l.map iA) ∧ e 23 = .sl (l.map iA) ∧ e 24 = .i l.length ∧ e 25 = .i i ∧ i ≤ l.length ∧ ∀ c ∈ l.take i, Id.kind c = 1) (fun i => l.length - i) 0 ?_ ?_
    ·refine ⟨rfl, ?_, ?_, ?_, ?_, ?_, by omega, by simp⟩
     all_goals first | (simp (disch := first | assumption | omega) only [go_sem]; done) | (simp (disch := first | assumption | omega) only [go_sem]; rfl)
    ·rintro i e H' ⟨rfl, g0, g3, g23, g24, g25, i1, i2⟩
     by_cases hi : i < l.length
     ·have hix := ix_at hi
      repeat' first|simp (disch:=first|omega|assumption|decide) only[go_sem,hm,hz,ht,hr_,g0,g3,g23,g24,g25,hix]|(apply ifP_in<;>intro)
      refine rF_use (kind_w l[i]) ?_
      rintro _ K3 ⟨rfl, rfl⟩
      by_cases hk : Id.kind l[i] = 1
      ·repeat' first|simp (disch:=first|omega|assumption|decide) only[go_sem,hm,hz,ht,hr_,g0,g3,g23,g24,g25,hix,hk]|(apply ifP_in<;>intro)
       refine ⟨i + 1, ⟨rfl, by omega, ?_⟩, by omega⟩
       intro c hc
       rw [List.take_succ_eq_append_getElem hi, List.mem_append] at hc
       rcases hc with hc | hc
       ·exact i2 c hc
       ·simp at hc; subst hc; exact hk
      ·have hall : l.all (fun c => decide (Id.kind c = 1)) = false := by
        rw [List.all_eq_false]
        exact ⟨l[i], List.getElem_mem hi, by simp [hk]⟩
       rw [hall] at hso
       repeat' first|simp (disch:=first|omega|assumption|decide) only[go_sem,hm,hz,ht,hr_,g0,g3,g23,g24,g25,hix]|(apply ifP_in<;>intro)
       exact ⟨by rw [hso]; simp, hp⟩
     ·have : i = l.length := by omega
      subst this
      rw [List.take_length] at i2
      have hall : l.all (fun c => decide (Id.kind c = 1)) = true := by
       rw [List.all_eq_true]
       exact fun c hc => by simp [i2 c hc]
      rw [hall] at hso
      repeat' first|simp (disch:=first|omega|assumption|decide) only[go_sem,hm,hz,ht,hr_,g0,g3,g23,g24,g25]|(apply ifP_in<;>intro)
      refine rF_use (encode_w l (by omega)) ?_
      rintro _ K3 ⟨rfl, rfl⟩
      generalize (Puny.encode l).1 = t at *
      generalize (Puny.encode l).2 = er at *
      by_cases h0 : er = 0
      ·subst h0
       repeat' first|simp (disch:=first|omega|assumption|decide) only[go_sem,hm,hz,ht,hr_,g0,g3,g23,g24,g25]|(apply ifP_in<;>intro)
       exact ⟨by rw [hso]; simp, hp⟩
      ·repeat' first|simp (disch:=first|omega|assumption|decide) only[go_sem,hm,hz,ht,hr_,g0,g3,g23,g24,g25]|(apply ifP_in<;>intro)
       exact ⟨by rw [hso]; simp [h0], hp⟩
 ·repeat' first|simp (disch:=first|omega|assumption|decide) only[go_sem,hm,hz,ht,hr_]|(apply ifP_in<;>intro)
  exact ⟨by rw [hso]; simp [h0], hp⟩
end In
end Go.Proofs
