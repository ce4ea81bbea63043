/- A value semantics of the loaded code, its soundness, and walks through functions over it. -/
import Derived.Test.YtiboedaicjkfnaaGreatDoorPunyRound
/-! Small letters made great, in plain Lean. -/
set_option linter.unusedVariables false
set_option linter.unusedSimpArgs false
namespace Go.Puny
def up (c : UInt8) : UInt8 := if 97 ≤ c.toNat ∧ c.toNat ≤ 122 then c - 32 else c
theorem up_nat {c : UInt8} (h : 97 ≤ c.toNat ∧ c.toNat ≤ 122) : (c - 32).toNat = c.toNat - 32 := by
  rw [UInt8.toNat_sub_of_le]
  · rfl
  · show (32 : UInt8).toNat ≤ c.toNat
    have : (32 : UInt8).toNat = 32 := rfl
    omega
theorem dgt_up {c : UInt8} (h : lowOrDigit c) : dgt (up c) = dgt c ∧ up c ≠ 45 ∧ (up c).toNat < 128 := by
  unfold lowOrDigit at h
  by_cases hc : 97 ≤ c.toNat ∧ c.toNat ≤ 122
  · have hn := up_nat hc
    have hu : up c = c - 32 := by unfold up; rw [if_pos hc]
    rw [hu]
    refine ⟨?_, fun he => ?_, by omega⟩
    · unfold dgt
      rw [hn, if_neg (by omega), if_pos (by omega), if_pos hc]
      omega
    · rw [he] at hn
      have : (45 : UInt8).toNat = 45 := rfl
      omega
  · have hu : up c = c := by unfold up; rw [if_neg hc]
    rw [hu]
    exact ⟨rfl, (low_ok (by unfold lowOrDigit; exact h)).1, by omega⟩
/-- What stands there when so much is done. -/
def cur (s : List UInt8) (own i : Nat) : List UInt8 := s.take own ++ ((s.take i).drop own).map up ++ s.drop i
theorem cur_end (s : List UInt8) (own : Nat) : cur s own s.length = s.take own ++ (s.drop own).map up := by
  unfold cur
  simp
/-- What is written behind the plain signs: letters, digits and dashes. -/
theorem back {l : List Int} (h : (encode l).2 = 0) :
    (plain l).length ≤ (encode l).1.length ∧ (encode l).1.length ≤ 3073 ∧ (∀ (i : Nat) (hi : i < (encode l).1.length), (plain l).length ≤ i → lowOrDigit (encode l).1[i] ∨ (encode l).1[i] = 45) ∧
    decode (cur (encode l).1 (plain l).length (encode l).1.length) = (l, 0) ∧ (plain l).length = (l.filter (lt_ 128)).length := by
  obtain ⟨hl, ha, he⟩ := encode_ok h
  have hpl : (plain l).length = (l.filter (lt_ 128)).length := by rw [← plain_ints ha, List.length_map]
  obtain ⟨T, h1, h2, h3, h4⟩ := round h
  have hd : dash (plain l) = plain l ++ (if (plain l).length = 0 then [] else [45]) := by unfold dash; split <;> simp
  have hT := h4 (T.map up) (by rw [List.map_map]; exact List.map_congr_left fun c hc => (dgt_up (h2 c hc)).1) (fun c hc => by
    obtain ⟨c', hc', rfl⟩ := List.mem_map.1 hc
    exact (dgt_up (h2 c' hc')).2)
  obtain ⟨D, hD⟩ : ∃ D : List UInt8, D = if (plain l).length = 0 then [] else [45] := ⟨_, rfl⟩
  have hD2 : ∀ c ∈ D, c = 45 := by
    intro c hc
    rw [hD] at hc
    split at hc
    · simp at hc
    · simpa using hc
  rw [← hD] at hd
  rw [hd, List.append_assoc] at h1
  refine ⟨by rw [h1]; simp, h3, fun i hi hio => ?_, ?_, hpl⟩
  · have hm : (encode l).1[i] ∈ D ++ T := by
      have e : (encode l).1[i]? = (D ++ T)[i - (plain l).length]? := by rw [h1, List.getElem?_append_right hio]
      rw [List.getElem?_eq_getElem hi] at e
      exact List.mem_of_getElem? e.symm
    rcases List.mem_append.1 hm with hm | hm
    · exact .inr (hD2 _ hm)
    · exact .inl (h2 _ hm)
  · have hDu : D.map up = D := by
      rw [hD]; split <;> rfl
    rw [cur_end, h1, List.take_left, List.drop_left, List.map_append, hDu, ← List.append_assoc, ← hd]
    exact hT
end Go.Puny
