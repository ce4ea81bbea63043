/- A value semantics of the loaded code, its soundness, and walks through functions over it. -/
import Derived.Test.YtiboedaicjkfnaaGreatDoorIdSpec
import Derived.Test.YtiboedaicjkfnaaGreatDoorPunyUp
set_option linter.unusedVariables false
set_option linter.unusedSimpArgs false
namespace Id
open Go
theorem encode_low {l : List Int} (h : (Puny.encode l).2 = 0) : ∀ c ∈ (Puny.encode l).1, c.toNat < 128 := by
 obtain ⟨T, h1, h2, _⟩ := Puny.round h
 have hp := Puny.plain_ok (Puny.encode_ok h).2.1
 intro c hc
 rw [h1, List.mem_append] at hc
 rcases hc with hc | hc
 ·unfold Puny.dash at hc
  split at hc
  ·exact hp c hc
  ·rw [List.mem_append] at hc
   rcases hc with hc | hc
   ·exact hp c hc
   ·simp at hc; subst hc; decide
 ·exact (Puny.low_ok (h2 c hc)).2
theorem plain_ints {s : List UInt8} (h : ∀ c ∈ s, c.toNat < 128) : plain (Puny.ints s) = true := by
 unfold plain
 rw [List.all_eq_true]
 intro c hc
 unfold Puny.ints at hc
 obtain ⟨x, hx, rfl⟩ := List.mem_map.1 hc
 have := h x hx
 simp [high]; omega
theorem asc_ints (s : List UInt8) : Utf.asc (Puny.ints s) = s := by
 unfold Utf.asc Puny.ints
 rw [List.map_map]
 conv => rhs; rw [← List.map_id s]
 refine List.map_congr_left fun c _ => ?_
 simp
theorem marked_xn (s : List UInt8) : marked (Puny.ints (XNb ++ s)) = true := by
 unfold marked Puny.ints XNb XN
 simp
theorem label_marks {l : List Int} (hk : ∀ c ∈ l, kind c = 1) (hh : plain l = false) (he : (Puny.encode l).2 = 0) (hm : marked l = false) :
  label l = (XNb ++ (Puny.encode l).1, 0) ∧ label (Puny.ints (XNb ++ (Puny.encode l).1)) = (XNb ++ (Puny.encode l).1, 0) := by
 constructor
 ·unfold label
  rw [hh, hm, he]
  simp
 ·have hlow := encode_low he
  have hlow2 : ∀ c ∈ XNb ++ (Puny.encode l).1, c.toNat < 128 := by
   intro c hc
   rw [List.mem_append] at hc
   rcases hc with hc | hc
   ·simp [XNb] at hc
    rcases hc with rfl | rfl | rfl <;> decide
   ·exact hlow c hc
  unfold label
  rw [plain_ints hlow2, marked_xn, asc_ints]
  have hs : sound ((XNb ++ (Puny.encode l).1).drop 4) = true := by
   have : (XNb ++ (Puny.encode l).1).drop 4 = (Puny.encode l).1 := by unfold XNb; simp
   rw [this]
   unfold sound
   rw [Puny.decode_encode he]
   simp only [hh, hm, he]
   simp
   exact hk
  rw [hs]
  simp
end Id
namespace Id
open Go
theorem kind_dot : kind 46 = 1 := by decide +kernel
theorem flat_one {l : List Int} (h : ∀ c ∈ l, kind c = 1) : l.flatMap to = l := by
 induction l with
 | nil => rfl
 | cons c r ih =>
  rw [List.flatMap_cons, ih fun d hd => h d (by simp [hd])]
  unfold to
  rw [if_pos (h c (by simp))]; rfl
theorem mapG_one {l : List Int} (h : ∀ c ∈ l, kind c = 1) : mapG l = (l, 0, true) := by
 unfold mapG
 rw [badAt_none.2 (fun c hc => by rw [h c hc]; decide), flat_one h]
theorem ascii_labels {l : List (List Int)} (hne : l ≠ []) (hk : ∀ x ∈ l, ∀ c ∈ x, kind c = 1 ∧ c ≠ 46) :
  toASCII (Sp.join [46] l) = if 256 < (Sp.join [46] l).length then ([], 11) else if ∃ x ∈ l, (label x).2 ≠ 0 then ([], (labels l).2) else
   if 253 < (Sp.join [46] (l.map fun x => (label x).1)).length then ([], 3) else (Sp.join [46] (l.map fun x => (label x).1), 0) := by
 have hm : ∀ c ∈ Sp.join [46] l, kind c = 1 := by
  intro c hc
  rcases Sp.mem_join hc with h | ⟨y, hy, h⟩
  ·simp at h; subst h; exact kind_dot
  ·exact (hk y hy c h).1
 have hs : Sp.split 46 (Sp.join [46] l) = l := Sp.split_join hne fun x hx h => (hk x hx 46 h).2 rfl
 unfold toASCII
 rw [mapG_one hm]
 simp only [hs]
 by_cases h256 : 256 < (Sp.join [46] l).length
 ·rw [if_pos h256, if_pos h256]
 ·rw [if_neg h256, if_neg h256]
  simp only [Bool.true_eq_false, if_false]
  by_cases hg : ∃ x ∈ l, (label x).2 ≠ 0
  ·rw [if_pos hg]
   have : (labels l).2 ≠ 0 := by
    obtain ⟨x, hx, he⟩ := hg
    clear hm hs h256 hne hk
    induction l with
    | nil => simp at hx
    | cons y r ih =>
     unfold labels
     split
     ·rename_i h0
      split
      ·rename_i h1
       rcases List.mem_cons.1 hx with rfl | hx
       ·exact absurd h0 he
       ·exact absurd h1 (ih hx)
      ·rename_i h1; exact h1
     ·rename_i h0; exact h0
   rw [if_pos this]
  ·rw [if_neg hg, labels_ok (fun x hx => Classical.byContradiction fun h => hg ⟨x, hx, h⟩)]
   simp
theorem labels_bad {l : List (List Int)} (hg : ∃ x ∈ l, (label x).2 ≠ 0) : (labels l).2 ≠ 0 := by
 obtain ⟨x, hx, he⟩ := hg
 induction l with
 | nil => simp at hx
 | cons y r ih =>
  unfold labels
  split
  ·rename_i h0
   split
   ·rename_i h1
    rcases List.mem_cons.1 hx with rfl | hx
    ·exact absurd h0 he
    ·exact absurd h1 (ih hx)
   ·rename_i h1; exact h1
  ·rename_i h0; exact h0
end Id
