/- Walks: which signs names may have. -/
import Derived.Test.YtiboedaicjkfnaaGreatDoorPunyAllbx0
import Derived.Test.YtiboedaicjkfnaaGreatDoorPunyRound
import Derived.Test.YtiboedaicjkfnaaGreatDoorIdSpec
set_option linter.unusedVariables false
set_option linter.unusedSimpArgs false
namespace Go.Proofs
open Go.Lv
namespace In
open Pu
variable {H : Heap}
theorem bin_low {P : Program} {xt : TypeId} {c : Int} : bin P .and xt (.i c) (.i 65535) = some (.i (Id.low c)) := rfl
theorem bin_odd {P : Program} {xt : TypeId} {c : Int} : bin P .and xt (.i c) (.i 1) = some (.i (Id.odd c)) := rfl
theorem within_w (c lo hi : Int) : WF Tryz.prog cfg 121 [.i c, .i lo, .i hi] H (fun r H' => r = .b (Id.within c lo hi) ∧ H' = H) := by
 have hm : ∀ d, cfg.muF 121 d = (false) := fun _ => rfl
 have hz : ∀ d, cfg.fzF 121 d = (false) := fun _ => rfl
 have ht : ∀ d, cfg.tkF 121 d = (false) := fun _ => rfl
 have hr_ : ∀ g, cfg.raw g = (g == 152 || g == 118) := fun _ => rfl
 refine rF_fn rfl rfl Tryz.func121 rfl ?_
 repeat' first|simp (disch:=first|omega|assumption|decide) only[go_sem,hm,hz,ht,hr_]|(apply ifP_in<;>intro)
 all_goals (simp only [AV.v.injEq, Value.bool.injEq]; exact Bool.eq_iff_iff.2 (by simp [Id.within]; omega))
theorem ignored_w (c : Int) : WF Tryz.prog cfg 116 [.i c] H (fun r H' => r = .b (Id.ignored c) ∧ H' = H) := by
 have hm : ∀ d, cfg.muF 116 d = (false) := fun _ => rfl
 have hz : ∀ d, cfg.fzF 116 d = (false) := fun _ => rfl
 have ht : ∀ d, cfg.tkF 116 d = (false) := fun _ => rfl
 have hr_ : ∀ g, cfg.raw g = (g == 152 || g == 118) := fun _ => rfl
 refine rF_fn rfl rfl Tryz.func116 rfl ?_
 by_cases h : c = 173 ∨ c = 8203 ∨ c = 8288
 ·repeat' first|simp (disch:=first|omega|assumption|decide) only[go_sem,hm,hz,ht,hr_]|(apply ifP_in<;>intro)
  all_goals (simp only [AV.v.injEq, Value.bool.injEq]; exact Bool.eq_iff_iff.2 (by simp [Id.ignored]; omega))
 ·have h1 : ¬ c = 173 := by omega
  have h2 : ¬ c = 8203 := by omega
  have h3 : ¬ c = 8288 := by omega
  repeat' first|simp (disch:=first|omega|assumption|decide) only[go_sem,hm,hz,ht,hr_]|(apply ifP_in<;>intro)
  refine rF_use (within_w c 65024 65039) ?_
  rintro _ H1 ⟨rfl, rfl⟩
  cases hw : Id.within c 65024 65039 with
  | true =>
   repeat' first|simp (disch:=first|omega|assumption|decide) only[go_sem,hm,hz,ht,hr_]|(apply ifP_in<;>intro)
   simp [Id.ignored, hw, h1, h2, h3]
  | false =>
   repeat' first|simp (disch:=first|omega|assumption|decide) only[go_sem,hm,hz,ht,hr_]|(apply ifP_in<;>intro)
   simp [Id.ignored, hw, h1, h2, h3]
theorem forbidden_w (c : Int) : WF Tryz.prog cfg 117 [.i c] H (fun r H' => r = .b (Id.forbidden c) ∧ H' = H) := by
 have hm : ∀ d, cfg.muF 117 d = (false) := fun _ => rfl
 have hz : ∀ d, cfg.fzF 117 d = (false) := fun _ => rfl
 have ht : ∀ d, cfg.tkF 117 d = (false) := fun _ => rfl
 have hr_ : ∀ g, cfg.raw g = (g == 152 || g == 118) := fun _ => rfl
 refine rF_fn rfl rfl Tryz.func117 rfl ?_
 repeat' first|simp (disch:=first|omega|assumption|decide) only[go_sem,hm,hz,ht,hr_]|(apply ifP_in<;>intro)
 refine rF_use (scalar_w c) ?_
 rintro _ H1 ⟨rfl, rfl⟩
 cases h1 : Puny.scalar c with
 | false =>
  repeat' first|simp (disch:=first|omega|assumption|decide) only[go_sem,hm,hz,ht,hr_]|(apply ifP_in<;>intro)
  simp [Id.forbidden, h1]
 | true =>
  repeat' first|simp (disch:=first|omega|assumption|decide) only[go_sem,hm,hz,ht,hr_]|(apply ifP_in<;>intro)
  refine rF_use (within_w c 128 160) ?_
  rintro _ H1 ⟨rfl, rfl⟩
  cases h2 : Id.within c 128 160 with
  | true =>
   repeat' first|simp (disch:=first|omega|assumption|decide) only[go_sem,hm,hz,ht,hr_]|(apply ifP_in<;>intro)
   simp [Id.forbidden, h1, h2]
  | false =>
   repeat' first|simp (disch:=first|omega|assumption|decide) only[go_sem,hm,hz,ht,hr_]|(apply ifP_in<;>intro)
   refine rF_use (within_w c 57344 63743) ?_
   rintro _ H1 ⟨rfl, rfl⟩
   cases h3 : Id.within c 57344 63743 with
   | true =>
    repeat' first|simp (disch:=first|omega|assumption|decide) only[go_sem,hm,hz,ht,hr_]|(apply ifP_in<;>intro)
    simp [Id.forbidden, h1, h2, h3]
   | false =>
    repeat' first|simp (disch:=first|omega|assumption|decide) only[go_sem,hm,hz,ht,hr_]|(apply ifP_in<;>intro)
    refine rF_use (within_w c 64976 65007) ?_
    rintro _ H1 ⟨rfl, rfl⟩
    cases h4 : Id.within c 64976 65007 with
    | true =>
     repeat' first|simp (disch:=first|omega|assumption|decide) only[go_sem,hm,hz,ht,hr_]|(apply ifP_in<;>intro)
     simp [Id.forbidden, h1, h2, h3, h4]
    | false =>
     by_cases h5 : 983040 ≤ c
     ·repeat' first|simp (disch:=first|omega|assumption|decide) only[go_sem,hm,hz,ht,hr_]|(apply ifP_in<;>intro)
      simp [Id.forbidden, h1, h2, h3, h4, h5]
     ·repeat' first|simp (disch:=first|omega|assumption|decide) only[go_sem,hm,hz,ht,hr_,bin_low]|(apply ifP_in<;>intro)
      simp [Id.forbidden, h1, h2, h3, h4, h5]
theorem single_w (c : Int) : WF Tryz.prog cfg 119 [.i c] H (fun r H' => r = .sl ((Id.single c).map iA) ∧ H' = H) := by
 have hm : ∀ d, cfg.muF 119 d = (false) := fun _ => rfl
 have hz : ∀ d, cfg.fzF 119 d = (false) := fun _ => rfl
 have ht : ∀ d, cfg.tkF 119 d = (false) := fun _ => rfl
 have hr_ : ∀ g, cfg.raw g = (g == 152 || g == 118) := fun _ => rfl
 refine rF_fn rfl rfl Tryz.func119 rfl ?_
 repeat' first|simp (disch:=first|omega|assumption|decide) only[go_sem,hm,hz,ht,hr_]|(apply ifP_in<;>intro)
 all_goals simp [Id.single, iA, *]
theorem more_w (c : Int) : WF Tryz.prog cfg 120 [.i c] H (fun r H' => r = .i (Id.more c) ∧ H' = H) := by
 have hodd := Id.odd_bnd c
 have hm : ∀ d, cfg.muF 120 d = (false) := fun _ => rfl
 have hz : ∀ d, cfg.fzF 120 d = (false) := fun _ => rfl
 have ht : ∀ d, cfg.tkF 120 d = (false) := fun _ => rfl
 have hr_ : ∀ g, cfg.raw g = (g == 152 || g == 118) := fun _ => rfl
 refine rF_fn rfl rfl Tryz.func120 rfl ?_
 repeat' first|simp (disch:=first|omega|assumption|decide) only[go_sem,hm,hz,ht,hr_]|(apply ifP_in<;>intro)
 refine rF_use (within_w c 65 90) ?_
 rintro _ H1 ⟨rfl, rfl⟩
 cases h0 : Id.within c 65 90 with
 | true =>
  repeat' first|simp (disch:=first|omega|assumption|decide) only[go_sem,hm,hz,ht,hr_,bin_odd]|(apply ifP_in<;>intro)
  simp [Id.more, h0]
 | false =>
  repeat' first|simp (disch:=first|omega|assumption|decide) only[go_sem,hm,hz,ht,hr_]|(apply ifP_in<;>intro)
  refine rF_use (within_w c 192 222) ?_
  rintro _ H1 ⟨rfl, rfl⟩
  cases h1 : Id.within c 192 222 with
  | true =>
   by_cases g : c = 215
   ·subst g
    repeat' first|simp (disch:=first|omega|assumption|decide) only[go_sem,hm,hz,ht,hr_]|(apply ifP_in<;>intro)
    refine rF_use (within_w 215 913 937) ?_
    rintro _ H1 ⟨rfl, rfl⟩
    rw [show Id.within 215 913 937 = false from by decide]
    repeat' first|simp (disch:=first|omega|assumption|decide) only[go_sem,hm,hz,ht,hr_]|(apply ifP_in<;>intro)
    refine rF_use (within_w 215 1040 1071) ?_
    rintro _ H1 ⟨rfl, rfl⟩
    rw [show Id.within 215 1040 1071 = false from by decide]
    repeat' first|simp (disch:=first|omega|assumption|decide) only[go_sem,hm,hz,ht,hr_]|(apply ifP_in<;>intro)
    refine rF_use (within_w 215 1024 1039) ?_
    rintro _ H1 ⟨rfl, rfl⟩
    rw [show Id.within 215 1024 1039 = false from by decide]
    repeat' first|simp (disch:=first|omega|assumption|decide) only[go_sem,hm,hz,ht,hr_]|(apply ifP_in<;>intro)
    refine rF_use (within_w 215 256 311) ?_
    rintro _ H1 ⟨rfl, rfl⟩
    rw [show Id.within 215 256 311 = false from by decide]
    repeat' first|simp (disch:=first|omega|assumption|decide) only[go_sem,hm,hz,ht,hr_]|(apply ifP_in<;>intro)
    refine rF_use (within_w 215 330 375) ?_
    rintro _ H1 ⟨rfl, rfl⟩
    rw [show Id.within 215 330 375 = false from by decide]
    repeat' first|simp (disch:=first|omega|assumption|decide) only[go_sem,hm,hz,ht,hr_]|(apply ifP_in<;>intro)
    refine rF_use (within_w 215 313 328) ?_
    rintro _ H1 ⟨rfl, rfl⟩
    rw [show Id.within 215 313 328 = false from by decide]
    repeat' first|simp (disch:=first|omega|assumption|decide) only[go_sem,hm,hz,ht,hr_]|(apply ifP_in<;>intro)
    refine rF_use (within_w 215 377 382) ?_
    rintro _ H1 ⟨rfl, rfl⟩
    rw [show Id.within 215 377 382 = false from by decide]
    repeat' first|simp (disch:=first|omega|assumption|decide) only[go_sem,hm,hz,ht,hr_]|(apply ifP_in<;>intro)
    rw [show Id.more 215 = 0 from by decide]
   ·repeat' first|simp (disch:=first|omega|assumption|decide) only[go_sem,hm,hz,ht,hr_]|(apply ifP_in<;>intro)
    simp [Id.more, h0, h1, g]
  | false =>
   repeat' first|simp (disch:=first|omega|assumption|decide) only[go_sem,hm,hz,ht,hr_]|(apply ifP_in<;>intro)
   refine rF_use (within_w c 913 937) ?_
   rintro _ H1 ⟨rfl, rfl⟩
   cases h2 : Id.within c 913 937 with
   | true =>
    by_cases g : c = 930
    ·subst g
     repeat' first|simp (disch:=first|omega|assumption|decide) only[go_sem,hm,hz,ht,hr_]|(apply ifP_in<;>intro)
     refine rF_use (within_w 930 1040 1071) ?_
     rintro _ H1 ⟨rfl, rfl⟩
     rw [show Id.within 930 1040 1071 = false from by decide]
     repeat' first|simp (disch:=first|omega|assumption|decide) only[go_sem,hm,hz,ht,hr_]|(apply ifP_in<;>intro)
     refine rF_use (within_w 930 1024 1039) ?_
     rintro _ H1 ⟨rfl, rfl⟩
     rw [show Id.within 930 1024 1039 = false from by decide]
     repeat' first|simp (disch:=first|omega|assumption|decide) only[go_sem,hm,hz,ht,hr_]|(apply ifP_in<;>intro)
     refine rF_use (within_w 930 256 311) ?_
     rintro _ H1 ⟨rfl, rfl⟩
     rw [show Id.within 930 256 311 = false from by decide]
     repeat' first|simp (disch:=first|omega|assumption|decide) only[go_sem,hm,hz,ht,hr_]|(apply ifP_in<;>intro)
     refine rF_use (within_w 930 330 375) ?_
     rintro _ H1 ⟨rfl, rfl⟩
     rw [show Id.within 930 330 375 = false from by decide]
     repeat' first|simp (disch:=first|omega|assumption|decide) only[go_sem,hm,hz,ht,hr_]|(apply ifP_in<;>intro)
     refine rF_use (within_w 930 313 328) ?_
     rintro _ H1 ⟨rfl, rfl⟩
     rw [show Id.within 930 313 328 = false from by decide]
     repeat' first|simp (disch:=first|omega|assumption|decide) only[go_sem,hm,hz,ht,hr_]|(apply ifP_in<;>intro)
     refine rF_use (within_w 930 377 382) ?_
     rintro _ H1 ⟨rfl, rfl⟩
     rw [show Id.within 930 377 382 = false from by decide]
     repeat' first|simp (disch:=first|omega|assumption|decide) only[go_sem,hm,hz,ht,hr_]|(apply ifP_in<;>intro)
     rw [show Id.more 930 = 0 from by decide]
    ·repeat' first|simp (disch:=first|omega|assumption|decide) only[go_sem,hm,hz,ht,hr_]|(apply ifP_in<;>intro)
     simp [Id.more, h0, h1, h2, g]
   | false =>
    repeat' first|simp (disch:=first|omega|assumption|decide) only[go_sem,hm,hz,ht,hr_]|(apply ifP_in<;>intro)
    refine rF_use (within_w c 1040 1071) ?_
    rintro _ H1 ⟨rfl, rfl⟩
    cases h3 : Id.within c 1040 1071 with
    | true =>
     repeat' first|simp (disch:=first|omega|assumption|decide) only[go_sem,hm,hz,ht,hr_,bin_odd]|(apply ifP_in<;>intro)
     simp [Id.more, h0, h1, h2, h3]
    | false =>
     repeat' first|simp (disch:=first|omega|assumption|decide) only[go_sem,hm,hz,ht,hr_]|(apply ifP_in<;>intro)
     refine rF_use (within_w c 1024 1039) ?_
     rintro _ H1 ⟨rfl, rfl⟩
     cases h4 : Id.within c 1024 1039 with
     | true =>
      repeat' first|simp (disch:=first|omega|assumption|decide) only[go_sem,hm,hz,ht,hr_,bin_odd]|(apply ifP_in<;>intro)
      simp [Id.more, h0, h1, h2, h3, h4]
     | false =>
      repeat' first|simp (disch:=first|omega|assumption|decide) only[go_sem,hm,hz,ht,hr_]|(apply ifP_in<;>intro)
      refine rF_use (within_w c 256 311) ?_
      rintro _ H1 ⟨rfl, rfl⟩
      cases h5 : Id.within c 256 311 with
      | true =>
       repeat' first|simp (disch:=first|omega|assumption|decide) only[go_sem,hm,hz,ht,hr_,bin_odd]|(apply ifP_in<;>intro)
       simp [Id.more, h0, h1, h2, h3, h4, h5]
      | false =>
       repeat' first|simp (disch:=first|omega|assumption|decide) only[go_sem,hm,hz,ht,hr_]|(apply ifP_in<;>intro)
       refine rF_use (within_w c 330 375) ?_
       rintro _ H1 ⟨rfl, rfl⟩
       cases h6 : Id.within c 330 375 with
       | true =>
        repeat' first|simp (disch:=first|omega|assumption|decide) only[go_sem,hm,hz,ht,hr_,bin_odd]|(apply ifP_in<;>intro)
        simp [Id.more, h0, h1, h2, h3, h4, h5, h6]
       | false =>
        repeat' first|simp (disch:=first|omega|assumption|decide) only[go_sem,hm,hz,ht,hr_]|(apply ifP_in<;>intro)
        refine rF_use (within_w c 313 328) ?_
        rintro _ H1 ⟨rfl, rfl⟩
        cases h7 : Id.within c 313 328 with
        | true =>
         repeat' first|simp (disch:=first|omega|assumption|decide) only[go_sem,hm,hz,ht,hr_,bin_odd]|(apply ifP_in<;>intro)
         simp [Id.more, h0, h1, h2, h3, h4, h5, h6, h7]
        | false =>
         repeat' first|simp (disch:=first|omega|assumption|decide) only[go_sem,hm,hz,ht,hr_]|(apply ifP_in<;>intro)
         refine rF_use (within_w c 377 382) ?_
         rintro _ H1 ⟨rfl, rfl⟩
         cases h8 : Id.within c 377 382 with
         | true =>
          repeat' first|simp (disch:=first|omega|assumption|decide) only[go_sem,hm,hz,ht,hr_,bin_odd]|(apply ifP_in<;>intro)
          simp [Id.more, h0, h1, h2, h3, h4, h5, h6, h7, h8]
         | false =>
          repeat' first|simp (disch:=first|omega|assumption|decide) only[go_sem,hm,hz,ht,hr_]|(apply ifP_in<;>intro)
          simp [Id.more, h0, h1, h2, h3, h4, h5, h6, h7, h8]
theorem single_len (c : Int) : (Id.single c).length ≤ 2 := by
 unfold Id.single
 repeat' split
 all_goals simp
theorem more_bnd (c : Int) : 0 ≤ Id.more c ∧ Id.more c ≤ 80 := by
 have := Id.odd_bnd c
 unfold Id.more
 repeat' split
 all_goals omega
theorem more_pos {c : Int} (h : 0 < Id.more c) : 65 ≤ c ∧ c ≤ 1071 := by
 unfold Id.more at h
 simp only [Id.within, Bool.or_eq_true, Bool.and_eq_true, decide_eq_true_eq] at h
 repeat' split at h
 all_goals omega
theorem maps_w (c : Int) : WF Tryz.prog cfg 88 [.i c] H (fun r H' => r = .sl ((Id.maps c).map iA) ∧ H' = H) := by
 have hm : ∀ d, cfg.muF 88 d = (false) := fun _ => rfl
 have hz : ∀ d, cfg.fzF 88 d = (false) := fun _ => rfl
 have ht : ∀ d, cfg.tkF 88 d = (false) := fun _ => rfl
 have hr_ : ∀ g, cfg.raw g = (g == 152 || g == 118) := fun _ => rfl
 refine rF_fn rfl rfl Tryz.func88 rfl ?_
 repeat' first|simp (disch:=first|omega|assumption|decide) only[go_sem,hm,hz,ht,hr_]|(apply ifP_in<;>intro)
 refine rF_use (single_w c) ?_
 rintro _ H1 ⟨rfl, rfl⟩
 have hs := single_len c
 by_cases h0 : 0 < (Id.single c).length
 ·repeat' first|simp (disch:=first|omega|assumption|decide) only[go_sem,hm,hz,ht,hr_]|(apply ifP_in<;>intro)
  simp [Id.maps, h0]
 ·repeat' first|simp (disch:=first|omega|assumption|decide) only[go_sem,hm,hz,ht,hr_]|(apply ifP_in<;>intro)
  refine rF_use (more_w c) ?_
  rintro _ H1 ⟨rfl, rfl⟩
  have hmb := more_bnd c
  by_cases h1 : 0 < Id.more c
  ·have hb := more_pos h1
   repeat' first|simp (disch:=first|omega|assumption|decide) only[go_sem,hm,hz,ht,hr_]|(apply ifP_in<;>intro)
   simp [Id.maps, h0, h1, iA]
  ·repeat' first|simp (disch:=first|omega|assumption|decide) only[go_sem,hm,hz,ht,hr_]|(apply ifP_in<;>intro)
   refine rF_use (within_w c 65281 65374) ?_
   rintro _ H1 ⟨rfl, rfl⟩
   cases h2 : Id.within c 65281 65374 with
   | true =>
    have hw : 65281 ≤ c ∧ c ≤ 65374 := by simpa [Id.within] using h2
    repeat' first|simp (disch:=first|omega|assumption|decide) only[go_sem,hm,hz,ht,hr_]|(apply ifP_in<;>intro)
    refine rF_use (more_w (c - 65248)) ?_
    rintro _ H1 ⟨rfl, rfl⟩
    have hm2 := more_bnd (c - 65248)
    repeat' first|simp (disch:=first|omega|assumption|decide) only[go_sem,hm,hz,ht,hr_]|(apply ifP_in<;>intro)
    simp [Id.maps, h0, h1, h2, iA]
   | false =>
    repeat' first|simp (disch:=first|omega|assumption|decide) only[go_sem,hm,hz,ht,hr_]|(apply ifP_in<;>intro)
    refine rF_use (within_w c 9312 9320) ?_
    rintro _ H1 ⟨rfl, rfl⟩
    cases h3 : Id.within c 9312 9320 with
    | true =>
     have hw : 9312 ≤ c ∧ c ≤ 9320 := by simpa [Id.within] using h3
     repeat' first|simp (disch:=first|omega|assumption|decide) only[go_sem,hm,hz,ht,hr_]|(apply ifP_in<;>intro)
     simp [Id.maps, h0, h1, h2, h3, iA]
    | false =>
     repeat' first|simp (disch:=first|omega|assumption|decide) only[go_sem,hm,hz,ht,hr_]|(apply ifP_in<;>intro)
     simp [Id.maps, h0, h1, h2, h3, iA]
theorem maps_len (c : Int) : (Id.maps c).length ≤ 2 := by
 have := single_len c
 unfold Id.maps
 repeat' split
 all_goals first | exact this | simp
theorem kind_w (c : Int) : WF Tryz.prog cfg 86 [.i c] H (fun r H' => r = .i (Id.kind c) ∧ H' = H) := by
 have hm : ∀ d, cfg.muF 86 d = (false) := fun _ => rfl
 have hz : ∀ d, cfg.fzF 86 d = (false) := fun _ => rfl
 have ht : ∀ d, cfg.tkF 86 d = (false) := fun _ => rfl
 have hr_ : ∀ g, cfg.raw g = (g == 152 || g == 118) := fun _ => rfl
 refine rF_fn rfl rfl Tryz.func86 rfl ?_
 repeat' first|simp (disch:=first|omega|assumption|decide) only[go_sem,hm,hz,ht,hr_]|(apply ifP_in<;>intro)
 refine rF_use (ignored_w c) ?_
 rintro _ H1 ⟨rfl, rfl⟩
 cases h0 : Id.ignored c with
 | true =>
  repeat' first|simp (disch:=first|omega|assumption|decide) only[go_sem,hm,hz,ht,hr_]|(apply ifP_in<;>intro)
  simp [Id.kind, h0]
 | false =>
  repeat' first|simp (disch:=first|omega|assumption|decide) only[go_sem,hm,hz,ht,hr_]|(apply ifP_in<;>intro)
  refine rF_use (forbidden_w c) ?_
  rintro _ H1 ⟨rfl, rfl⟩
  cases h1 : Id.forbidden c with
  | true =>
   repeat' first|simp (disch:=first|omega|assumption|decide) only[go_sem,hm,hz,ht,hr_]|(apply ifP_in<;>intro)
   simp [Id.kind, h0, h1]
  | false =>
   repeat' first|simp (disch:=first|omega|assumption|decide) only[go_sem,hm,hz,ht,hr_]|(apply ifP_in<;>intro)
   refine rF_use (maps_w c) ?_
   rintro _ H1 ⟨rfl, rfl⟩
   have hl := maps_len c
   by_cases h2 : 0 < (Id.maps c).length
   ·repeat' first|simp (disch:=first|omega|assumption|decide) only[go_sem,hm,hz,ht,hr_]|(apply ifP_in<;>intro)
    simp [Id.kind, h0, h1, h2]
   ·repeat' first|simp (disch:=first|omega|assumption|decide) only[go_sem,hm,hz,ht,hr_]|(apply ifP_in<;>intro)
    simp [Id.kind, h0, h1, h2]
end In
end Go.Proofs
