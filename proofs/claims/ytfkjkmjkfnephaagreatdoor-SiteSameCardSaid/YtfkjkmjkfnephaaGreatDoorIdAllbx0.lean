/- A value semantics of the loaded code, its soundness, and walks through functions over it. -/
import Derived.Test.YtfkjkmjkfnephaaGreatDoorIdAllax0
import Derived.Test.YtfkjkmjkfnephaaGreatDoorPunyUp
set_option linter.unusedVariables false
set_option linter.unusedSimpArgs false
namespace Id
open Go
theorem encode_low {l : List Int} (h : (Puny.encode l).2 = 0) : ∀ c ∈ (Puny.encode l).1, c.toNat < 128 := by
 obtain ⟨T, h1, h2, _⟩ := Puny.round h
 have hp := Puny.plain_ok (Puny.encode_ok h).2.1
 intro c hc
 rw [h1, List.mem_append] at hc
 rcases hc with hc | hc
 ·unfold Puny.dash at hc
  split at hc
  ·exact hp c hc
  ·rw [List.mem_append] at hc
   rcases hc with hc | hc
   ·exact hp c hc
   ·simp at hc; subst hc; decide
 ·exact (Puny.low_ok (h2 c hc)).2
theorem plain_ints {s : List UInt8} (h : ∀ c ∈ s, c.toNat < 128) : plain (Puny.ints s) = true := by
 unfold plain
 rw [List.all_eq_true]
 intro c hc
 unfold Puny.ints at hc
 obtain ⟨x, hx, rfl⟩ := List.mem_map.1 hc
 have := h x hx
 simp [high]; omega
theorem asc_ints (s : List UInt8) : Utf.asc (Puny.ints s) = s := by
 unfold Utf.asc Puny.ints
 rw [List.map_map]
 conv => rhs; rw [← List.map_id s]
 refine List.map_congr_left fun c _ => ?_
 simp
theorem marked_xn (s : List UInt8) : marked (Puny.ints (XNb ++ s)) = true := by
 unfold marked Puny.ints XNb XN
 simp
theorem label_marks {l : List Int} (hk : ∀ c ∈ l, kind c = 1) (hh : plain l = false) (he : (Puny.encode l).2 = 0) (hm : marked l = false) :
  label l = (XNb ++ (Puny.encode l).1, 0) ∧ label (Puny.ints (XNb ++ (Puny.encode l).1)) = (XNb ++ (Puny.encode l).1, 0) := by
 constructor
 ·unfold label
  rw [hh, hm, he]
  simp
 ·have hlow := encode_low he
  have hlow2 : ∀ c ∈ XNb ++ (Puny.encode l).1, c.toNat < 128 := by
   intro c hc
   rw [List.mem_append] at hc
   rcases hc with hc | hc
   ·simp [XNb] at hc
    rcases hc with rfl | rfl | rfl <;> decide
   ·exact hlow c hc
  unfold label
  rw [plain_ints hlow2, marked_xn, asc_ints]
  have hs : sound ((XNb ++ (Puny.encode l).1).drop 4) = true := by
   have : (XNb ++ (Puny.encode l).1).drop 4 = (Puny.encode l).1 := by unfold XNb; simp
   rw [this]
   unfold sound
   rw [Puny.decode_encode he]
   simp only [hh, hm, he]
   simp
   exact hk
  rw [hs]
  simp
end Id
namespace Id
open Go
theorem kind_dot : kind 46 = 1 := by decide +kernel
theorem flat_one {l : List Int} (h : ∀ c ∈ l, kind c = 1) : l.flatMap to = l := by
 induction l with
 | nil => rfl
 | cons c r ih =>
  rw [List.flatMap_cons, ih fun d hd => h d (by simp [hd])]
  unfold to
  rw [if_pos (h c (by simp))]; rfl
theorem mapG_one {l : List Int} (h : ∀ c ∈ l, kind c = 1) : mapG l = (l, 0, true) := by
 unfold mapG
 rw [badAt_none.2 (fun c hc => by rw [h c hc]; decide), flat_one h]
theorem ascii_labels {l : List (List Int)} (hne : l ≠ []) (hk : ∀ x ∈ l, ∀ c ∈ x, kind c = 1 ∧ c ≠ 46) :
  toASCII (Sp.join [46] l) = if 256 < (Sp.join [46] l).length then ([], 11) else if ∃ x ∈ l, (label x).2 ≠ 0 then ([], (labels l).2) else
   if 253 < (Sp.join [46] (l.map fun x => (label x).1)).length then ([], 3) else (Sp.join [46] (l.map fun x => (label x).1), 0) := by
 have hm : ∀ c ∈ Sp.join [46] l, kind c = 1 := by
  intro c hc
  rcases Sp.mem_join hc with h | ⟨y, hy, h⟩
  ·simp at h; subst h; exact kind_dot
  ·exact (hk y hy c h).1
 have hs : Sp.split 46 (Sp.join [46] l) = l := Sp.split_join hne fun x hx h => (hk x hx 46 h).2 rfl
 unfold toASCII
 rw [mapG_one hm]
 simp only [hs]
 by_cases h256 : 256 < (Sp.join [46] l).length
 ·rw [if_pos h256, if_pos h256]
 ·rw [if_neg h256, if_neg h256]
  simp only [Bool.true_eq_false, if_false]
  by_cases hg : ∃ x ∈ l, (label x).2 ≠ 0
  ·rw [if_pos hg]
   have : (labels l).2 ≠ 0 := by
    obtain ⟨x, hx, he⟩ := hg
    clear hm hs h256 hne hk
    induction l with
    | nil => simp at hx
    | cons y r ih =>
     unfold labels
     split
     ·rename_i h0
      split
      ·rename_i h1
       rcases List.mem_cons.1 hx with rfl | hx
       ·exact absurd h0 he
       ·exact absurd h1 (ih hx)
      ·rename_i h1; exact h1
     ·rename_i h0; exact h0
   rw [if_pos this]
  ·rw [if_neg hg, labels_ok (fun x hx => Classical.byContradiction fun h => hg ⟨x, hx, h⟩)]
   simp
theorem labels_bad {l : List (List Int)} (hg : ∃ x ∈ l, (label x).2 ≠ 0) : (labels l).2 ≠ 0 := by
 obtain ⟨x, hx, he⟩ := hg
 induction l with
 | nil => simp at hx
 | cons y r ih =>
  unfold labels
  split
  ·rename_i h0
   split
   ·rename_i h1
    rcases List.mem_cons.1 hx with rfl | hx
    ·exact absurd h0 he
    ·exact absurd h1 (ih hx)
   ·rename_i h1; exact h1
  ·rename_i h0; exact h0
end Id
set_option linter.unusedVariables false
set_option linter.unusedSimpArgs false
namespace Id
open Go
theorem kind_low : ∀ c : Fin 128, (c.val < 65 ∨ 90 < c.val) → kind (c.val : Int) = 1 := by decide +kernel
theorem kind_up : ∀ c : Fin 128, kind (c.val : Int) = 1 → (c.val < 65 ∨ 90 < c.val) := by decide +kernel
theorem kind_small : ∀ c : Fin 1100, 0 < more (c.val : Int) → single (c.val : Int) = [] → kind ((c.val : Int) + more (c.val : Int)) = 1 := by decide +kernel
theorem kind_wide : ∀ c : Fin 127, 33 ≤ c.val → kind ((c.val : Int) + more (c.val : Int)) = 1 := by decide +kernel
theorem more_top {c : Int} (h : 0 < more c) : c ≤ 1071 := by
 unfold more at h
 split at h
 ·rename_i h1; simp [within] at h1; omega
 ·split at h
  ·rename_i h1; simp [within] at h1; omega
  ·split at h
   ·rename_i h1; simp [within] at h1; omega
   ·split at h
    ·rename_i h1; simp [within] at h1; omega
    ·omega
theorem maps_kind (c : Int) : ∀ d ∈ maps c, kind d = 1 := by
 intro d hd
 unfold maps at hd
 split at hd
 ·unfold single at hd
  repeat' split at hd
  all_goals simp at hd
  all_goals first
   | (subst hd; decide +kernel)
   | (rcases hd with rfl | rfl <;> decide +kernel)
   | skip
  have h178 : c = 178 ∨ c = 179 := by assumption
  rcases h178 with rfl | rfl <;> (subst hd; decide +kernel)
 ·rename_i hs
  have hs : single c = [] := by
   cases h : single c with
   | nil => rfl
   | cons a r => rw [h] at hs; simp at hs
  split at hd
  ·rename_i hm
   simp at hd; subst hd
   have h1 := more_range hm
   have h2 := more_top hm
   have hcc : ((c.toNat : Nat) : Int) = c := by omega
   have := kind_small ⟨c.toNat, by omega⟩
   simp only [hcc] at this
   exact this hm hs
  ·split at hd
   ·rename_i hw
    have hb : 65281 ≤ c ∧ c ≤ 65374 := by simpa [within] using hw
    simp at hd; subst hd
    have hcc : (((c - 65248).toNat : Nat) : Int) = c - 65248 := by omega
    have := kind_wide ⟨(c - 65248).toNat, by omega⟩
    simp only [hcc] at this
    exact this (by omega)
   ·split at hd
    ·rename_i hw
     have hb : 9312 ≤ c ∧ c ≤ 9320 := by simpa [within] using hw
     simp at hd; subst hd
     have hcc : (((49 + c - 9312).toNat : Nat) : Int) = 49 + c - 9312 := by omega
     have := kind_low ⟨(49 + c - 9312).toNat, by omega⟩
     simp only [hcc] at this
     exact this (by omega)
    ·simp at hd
theorem to_kind {c d : Int} (h : d ∈ to c) : kind d = 1 := by
 unfold to at h
 split at h
 ·rename_i h1; simp at h; subst h; exact h1
 ·split at h
  ·exact maps_kind c d h
  ·simp at h
theorem mapG_kinds {l : List Int} : ∀ c ∈ (mapG l).1, kind c = 1 := by
 intro c hc
 unfold mapG at hc
 split at hc
 ·simp at hc
 ·obtain ⟨a, _, h⟩ := List.mem_flatMap.1 hc
  exact to_kind h
def stays (b : UInt8) : Prop := b.toNat < 128 ∧ (b.toNat < 65 ∨ 90 < b.toNat)
theorem stays_kind {b : UInt8} (h : stays b) : kind (b.toNat : Int) = 1 := kind_low ⟨b.toNat, h.1⟩ h.2
theorem kind_stays {c : Int} (h : kind c = 1) (h0 : 0 ≤ c) (h1 : c < 128) : stays (UInt8.ofNat c.toNat) := by
 have hcc : ((c.toNat : Nat) : Int) = c := by omega
 have := kind_up ⟨c.toNat, by omega⟩
 simp only [hcc] at this
 have := this h
 unfold stays
 rw [UInt8.toNat_ofNat']
 omega
theorem low_stays {b : UInt8} (h : Puny.lowOrDigit b) : stays b ∧ b ≠ 46 := by
 unfold Puny.lowOrDigit at h
 refine ⟨by unfold stays; omega, fun e => ?_⟩
 subst e
 have : (46 : UInt8).toNat = 46 := rfl
 omega
theorem kind_nonneg {c : Int} (h : kind c = 1) : 0 ≤ c := by
 unfold kind at h
 split at h
 ·cases h
 ·split at h
  ·cases h
  ·rename_i hf
   simp [forbidden] at hf
   have := hf.1.1.1
   simp [Puny.scalar] at this
   omega
theorem plain_mem {l : List Int} {b : UInt8} (h : b ∈ Puny.plain l) : ∃ c ∈ l, c < 128 ∧ b = UInt8.ofNat c.toNat := by
 unfold Puny.plain at h
 obtain ⟨c, hc, rfl⟩ := List.mem_map.1 h
 obtain ⟨h1, h2⟩ := List.mem_filter.1 hc
 exact ⟨c, h1, by simpa using h2, rfl⟩
theorem encode_stays {l : List Int} (hk : ∀ c ∈ l, kind c = 1 ∧ c ≠ 46) (he : (Puny.encode l).2 = 0) : ∀ b ∈ (Puny.encode l).1, stays b ∧ b ≠ 46 := by
 obtain ⟨T, h1, h2, _⟩ := Puny.round he
 have hp : ∀ b ∈ Puny.plain l, stays b ∧ b ≠ 46 := by
  intro b hb
  obtain ⟨c, hc, hc2, rfl⟩ := plain_mem hb
  obtain ⟨hk1, hk2⟩ := hk c hc
  have h0 := kind_nonneg hk1
  refine ⟨kind_stays hk1 h0 hc2, fun e => hk2 ?_⟩
  have := congrArg UInt8.toNat e
  rw [UInt8.toNat_ofNat'] at this
  have h46 : (46 : UInt8).toNat = 46 := rfl
  omega
 intro b hb
 rw [h1, List.mem_append] at hb
 rcases hb with hb | hb
 ·unfold Puny.dash at hb
  split at hb
  ·exact hp b hb
  ·rw [List.mem_append] at hb
   rcases hb with hb | hb
   ·exact hp b hb
   ·simp at hb; subst hb; exact ⟨by unfold stays; decide, by decide⟩
 ·exact low_stays (h2 b hb)
theorem asc_stays {x : List Int} (hk : ∀ c ∈ x, kind c = 1 ∧ c ≠ 46) (hp : plain x = true) : ∀ b ∈ Utf.asc x, stays b ∧ b ≠ 46 := by
 intro b hb
 unfold Utf.asc at hb
 obtain ⟨c, hc, rfl⟩ := List.mem_map.1 hb
 obtain ⟨h0, h1⟩ := plain_bnd hp c hc
 obtain ⟨hk1, hk2⟩ := hk c hc
 refine ⟨kind_stays hk1 h0 h1, fun e => hk2 ?_⟩
 have := congrArg UInt8.toNat e
 rw [UInt8.toNat_ofNat'] at this
 have h46 : (46 : UInt8).toNat = 46 := rfl
 omega
theorem xn_stays : ∀ b ∈ XNb, stays b ∧ b ≠ 46 := by
 intro b hb
 simp [XNb] at hb
 rcases hb with rfl | rfl | rfl <;> exact ⟨by unfold stays; decide, by decide⟩
theorem marked_asc {x : List Int} (hp : plain x = true) : (Utf.asc x).take 4 = XNb ↔ x.take 4 = XN := by
 have h := text_marked x
 rw [Utf.text_plain (plain_bnd hp)] at h
 unfold marked at h
 exact decide_eq_decide.1 h
theorem label_again {x : List Int} (hk : ∀ c ∈ x, kind c = 1 ∧ c ≠ 46) (he : (label x).2 = 0) :
  (∀ b ∈ (label x).1, stays b ∧ b ≠ 46) ∧ label (Puny.ints (label x).1) = label x ∧ (∀ c ∈ uni1 (label x).1, kind c = 1 ∧ c ≠ 46) ∧ label (uni1 (label x).1) = label x := by
 cases hp : plain x with
 | true =>
  have hasc := asc_stays hk hp
  have hints := ints_asc hp
  have hma := marked_asc hp
  cases hm : marked x with
  | false =>
   have hl : label x = (Utf.asc x, 0) := by unfold label; rw [hp, hm]; rfl
   have hn : ¬ (Utf.asc x).take 4 = XNb := by rw [hma]; simpa [marked] using hm
   have hu : uni1 (Utf.asc x) = x := by unfold uni1; rw [if_neg (fun h => hn h.1), hints]
   rw [hl]
   simp only [hu, hints]
   exact ⟨hasc, hl, hk, hl⟩
  | true =>
   cases hs : sound ((Utf.asc x).drop 4) with
   | false =>
    have hl : label x = ([], 4) := by unfold label; rw [hp, hm, hs]; rfl
    rw [hl] at he; cases he
   | true =>
    have hl : label x = (Utf.asc x, 0) := by unfold label; rw [hp, hm, hs]; rfl
    have hn : (Utf.asc x).take 4 = XNb := by rw [hma]; simpa [marked] using hm
    have hsplit : Utf.asc x = XNb ++ (Utf.asc x).drop 4 := by
     conv => lhs; rw [← List.take_append_drop 4 (Utf.asc x), hn]
    have hs2 := hs
    unfold sound at hs2
    simp only [Bool.and_eq_true, decide_eq_true_eq, Bool.not_eq_true'] at hs2
    obtain ⟨⟨⟨⟨⟨s1, s2⟩, s3⟩, s4⟩, s5⟩, s6⟩ := hs2
    have hu : uni1 (Utf.asc x) = (Puny.decode ((Utf.asc x).drop 4)).1 := by unfold uni1; rw [if_pos ⟨hn, s1⟩]
    rw [hl]
    simp only [hints, hu]
    generalize (Puny.decode ((Utf.asc x).drop 4)).1 = u at *
    have hku : ∀ c ∈ u, kind c = 1 := fun c hc => by simpa using List.all_eq_true.1 s4 c hc
    refine ⟨hasc, hl, fun c hc => ⟨hku c hc, fun e => ?_⟩, ?_⟩
    ·subst e
     obtain ⟨T, h1, _⟩ := Puny.round s5
     have hpl : (46 : UInt8) ∈ Puny.plain u := by
      unfold Puny.plain
      refine List.mem_map.2 ⟨46, List.mem_filter.2 ⟨hc, by decide⟩, rfl⟩
     have : (46 : UInt8) ∈ (Puny.encode u).1 := by
      rw [h1, List.mem_append]
      left
      unfold Puny.dash
      split
      ·exact hpl
      ·exact List.mem_append_left _ hpl
     rw [s6] at this
     exact (hasc 46 (List.mem_of_mem_drop this)).2 rfl
    ·unfold label
     rw [s2, s3, s5, s6, ← hsplit]
     simp
 | false =>
  cases hm : marked x with
  | true =>
   have hl : label x = ([], 4) := by unfold label; rw [hp, hm]; rfl
   rw [hl] at he; cases he
  | false =>
   by_cases hen : (Puny.encode x).2 = 0
   ·obtain ⟨m1, m2⟩ := label_marks (fun c hc => (hk c hc).1) hp hen hm
    have hst := encode_stays hk hen
    rw [m1]
    have hu : uni1 (XNb ++ (Puny.encode x).1) = x := by
     unfold uni1
     have h4 : (XNb ++ (Puny.encode x).1).take 4 = XNb := by unfold XNb; simp
     have h5 : (XNb ++ (Puny.encode x).1).drop 4 = (Puny.encode x).1 := by unfold XNb; simp
     rw [h4, h5, Puny.decode_encode hen, if_pos ⟨rfl, rfl⟩]
    simp only [hu]
    refine ⟨fun b hb => ?_, m2, hk, m1⟩
    rcases List.mem_append.1 hb with hb | hb
    ·exact xn_stays b hb
    ·exact hst b hb
   ·have hl : label x = ([], (Puny.encode x).2) := by unfold label; rw [hp, hm, if_neg (by simp), if_neg (by simp), if_neg (by simp), if_neg hen]
    rw [hl] at he; exact absurd he hen
theorem ints_join (ts : List (List UInt8)) : Puny.ints (Sp.join [46] ts) = Sp.join [46] (ts.map Puny.ints) := by
 induction ts with
 | nil => rfl
 | cons a r ih =>
  cases r with
  | nil => rfl
  | cons b r =>
   rw [Sp.join, List.map_cons, List.map_cons, Sp.join, ← List.map_cons, ← ih]
   simp [Puny.ints]
theorem ints_len (s : List UInt8) : (Puny.ints s).length = s.length := by simp [Puny.ints]
theorem ascii_of {ys : List (List Int)} (hne : ys ≠ []) (hk : ∀ y ∈ ys, ∀ c ∈ y, kind c = 1 ∧ c ≠ 46) (hl : ∀ y ∈ ys, (label y).2 = 0) (h1 : (Sp.join [46] ys).length ≤ 256) (h2 : (Sp.join [46] (ys.map fun y => (label y).1)).length ≤ 253) :
  toASCII (Sp.join [46] ys) = (Sp.join [46] (ys.map fun y => (label y).1), 0) := by
 rw [ascii_labels hne hk, if_neg (by omega), if_neg (by rintro ⟨x, hx, h⟩; exact h (hl x hx)), if_neg (by omega)]
theorem again {l : List Int} (he : (toASCII l).2 = 0) :
  (toASCII l).1.length ≤ 253 ∧ (∀ b ∈ (toASCII l).1, stays b) ∧ toASCII (Puny.ints (toASCII l).1) = ((toASCII l).1, 0) ∧ ((toUni (toASCII l).1).length ≤ 256 → toASCII (toUni (toASCII l).1) = ((toASCII l).1, 0)) := by
 have hta : toASCII l = (if 256 < l.length then ([], 11)
 else if (mapG l).2.2 = false then ([], 4)
 else if (labels (Sp.split 46 (mapG l).1)).2 ≠ 0 then ([], (labels (Sp.split 46 (mapG l).1)).2)
 else if 253 < (Sp.join [46] (labels (Sp.split 46 (mapG l).1)).1).length then ([], 3)
 else (Sp.join [46] (labels (Sp.split 46 (mapG l).1)).1, 0)) := rfl
 by_cases h1 : 256 < l.length
 ·rw [hta, if_pos h1] at he; cases he
 ·rw [if_neg h1] at hta
  by_cases h2 : (mapG l).2.2 = false
  ·rw [hta, if_pos h2] at he; cases he
  ·rw [if_neg h2] at hta
   by_cases h3 : (labels (Sp.split 46 (mapG l).1)).2 ≠ 0
   ·rw [hta, if_pos h3] at he; exact absurd he h3
   ·rw [if_neg h3] at hta
    by_cases h4 : 253 < (Sp.join [46] (labels (Sp.split 46 (mapG l).1)).1).length
    ·rw [hta, if_pos h4] at he; cases he
    ·rw [if_neg h4] at hta
     have hk : ∀ x ∈ Sp.split 46 (mapG l).1, ∀ c ∈ x, kind c = 1 ∧ c ≠ 46 := by
      intro x hx c hc
      refine ⟨mapG_kinds (l := l) c ?_, fun e => Sp.split_parts _ x hx (e ▸ hc)⟩
      have : Sp.join [46] (Sp.split 46 (mapG l).1) = (mapG l).1 := Sp.join_split _
      rw [← this]
      exact Sp.mem_join_of hx hc
     have hne := Sp.split_ne (c := (46 : Int)) (mapG l).1
     generalize Sp.split 46 (mapG l).1 = p at *
     have hl : ∀ x ∈ p, (label x).2 = 0 := by
      intro x hx
      exact Classical.byContradiction fun h => h3 (labels_bad ⟨x, hx, h⟩)
     rw [labels_ok hl] at hta h4
     simp only at hta h4
     have hag := fun x hx => label_again (hk x hx) (hl x hx)
     rw [hta]
     simp only
     have hts : ∀ t ∈ p.map (fun x => (label x).1), (46 : UInt8) ∉ t := by
      intro t ht hm
      obtain ⟨x, hx, rfl⟩ := List.mem_map.1 ht
      exact ((hag x hx).1 46 hm).2 rfl
     have hsp : Sp.split 46 (Sp.join [46] (p.map fun x => (label x).1)) = p.map fun x => (label x).1 := Sp.split_join (by simpa using hne) hts
     refine ⟨by omega, fun b hb => ?_, ?_, fun hu => ?_⟩
     ·rcases Sp.mem_join hb with hb | ⟨t, ht, hb⟩
      ·simp at hb; subst hb; unfold stays; decide
      ·obtain ⟨x, hx, rfl⟩ := List.mem_map.1 ht
       exact ((hag x hx).1 b hb).1
     ·have hL : ((p.map fun x => (label x).1).map Puny.ints).map (fun y => (label y).1) = p.map fun x => (label x).1 := by
       rw [List.map_map, List.map_map]
       refine List.map_congr_left fun x hx => ?_
       simp only [Function.comp_apply]
       rw [(hag x hx).2.1]
      have hlen : (Sp.join [46] ((p.map fun x => (label x).1).map Puny.ints)).length ≤ 256 := by
       rw [← ints_join, ints_len]; omega
      have := ascii_of (ys := (p.map fun x => (label x).1).map Puny.ints) (by simpa using hne) (by
       intro y hy c hc
       obtain ⟨t, ht, rfl⟩ := List.mem_map.1 hy
       obtain ⟨x, hx, rfl⟩ := List.mem_map.1 ht
       unfold Puny.ints at hc
       obtain ⟨b, hb, rfl⟩ := List.mem_map.1 hc
       obtain ⟨s1, s2⟩ := (hag x hx).1 b hb
       refine ⟨stays_kind s1, fun e => s2 ?_⟩
       have h46 : (46 : UInt8).toNat = 46 := rfl
       exact UInt8.toNat.inj (by omega)) (by
       intro y hy
       obtain ⟨t, ht, rfl⟩ := List.mem_map.1 hy
       obtain ⟨x, hx, rfl⟩ := List.mem_map.1 ht
       rw [(hag x hx).2.1]; exact hl x hx) hlen (by rw [hL]; omega)
      rw [ints_join, this, hL]
     ·unfold toUni at hu ⊢
      rw [hsp] at hu ⊢
      have hL : ((p.map fun x => (label x).1).map uni1).map (fun y => (label y).1) = p.map fun x => (label x).1 := by
       rw [List.map_map, List.map_map]
       refine List.map_congr_left fun x hx => ?_
       simp only [Function.comp_apply]
       rw [(hag x hx).2.2.2]
      have := ascii_of (ys := (p.map fun x => (label x).1).map uni1) (by simpa using hne) (by
       intro y hy c hc
       obtain ⟨t, ht, rfl⟩ := List.mem_map.1 hy
       obtain ⟨x, hx, rfl⟩ := List.mem_map.1 ht
       exact (hag x hx).2.2.1 c hc) (by
       intro y hy
       obtain ⟨t, ht, rfl⟩ := List.mem_map.1 hy
       obtain ⟨x, hx, rfl⟩ := List.mem_map.1 ht
       rw [(hag x hx).2.2.2]; exact hl x hx) hu (by rw [hL]; omega)
      rw [this, hL]
end Id
