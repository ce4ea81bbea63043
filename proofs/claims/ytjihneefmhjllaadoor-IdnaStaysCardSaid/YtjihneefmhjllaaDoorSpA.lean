/- Walks: texts cut at a sign; prefixes. -/
import Derived.Test.YtjihneefmhjllaaDoorUtA
import Derived.Test.YtjihneefmhjllaaDoorLvAll13
set_option linter.unusedVariables false
set_option linter.unusedSimpArgs false
namespace Go.Proofs
open Go.Lv
namespace Ut
open Pu
variable {H : Heap}
theorem bytes_snoc {s : List UInt8} {i : Nat} (h : i < s.length) : s.take (i + 1) = s.take i ++ [s[i]] := List.take_succ_eq_append_getElem h
theorem split_r (s : List UInt8) (c : UInt8) (hs : s.length ≤ 1000000) : WF Tryd.prog cfg 33 [.str s, byteA c] H (fun r H' => r = .sl ((Sp.split c s).map AV.str) ∧ H' = H) := by
  have hm : ∀ d, cfg.muF 33 d = (false) := fun _ => rfl
  have hz : ∀ d, cfg.fzF 33 d = (false) := fun _ => rfl
  have ht : ∀ d, cfg.tkF 33 d = (false) := fun _ => rfl
  have hr_ : ∀ g, cfg.raw g = (g == 60 || g == 63) := fun _ => rfl
  refine rF_fn rfl rfl Tryd.func33 rfl ?_
  have hcb : c.toNat < 256 := c.toNat_lt
  repeat' (first | simp (disch := first | omega | assumption | decide) only [go_sem, hm, hz, ht, hr_] | refine ifP_in (fun _ => ?_) (fun _ => ?_))
  obtain ⟨p, hpd⟩ : ∃ p, p = Sp.split c s := ⟨_, rfl⟩
  have hsl := Sp.split_len_le (c := c) s
  rw [← hpd] at hsl ⊢
  refine rL_loop (σ := List (List UInt8) × Nat × Nat) (fun z e H' => H' = H ∧ e 0 = .str s ∧ e 1 = byteA c ∧ e 7 = .i z.2.2 ∧ e 6 = .i z.2.1 ∧ e 5 = .sl (z.1.map AV.str) ∧ z.2.1 ≤ z.2.2 ∧ z.2.2 ≤ s.length + 1 ∧ c ∉ (s.take z.2.2).drop z.2.1 ∧ (z.2.2 ≤ s.length → p = z.1 ++ Sp.split c (s.drop z.2.1)) ∧ (z.2.2 = s.length + 1 → p = z.1)) (fun z => s.length + 1 - z.2.2) ([], 0, 0) ?_ ?_
  · refine ⟨rfl, ?_, ?_, ?_, ?_, ?_, by simp, by simp, by simp, by simp [hpd], by simp⟩
    all_goals first | (simp (disch := first | assumption | omega) only [go_sem]; done) | (simp (disch := first | assumption | omega) only [go_sem]; rfl)
  · rintro ⟨a, fr, i⟩ e H' ⟨rfl, g0, g1, g7, g6, g5, j1, j2, j3, j4, j5⟩
    simp only at g7 g6 g5 j1 j2 j3 j4 j5
    by_cases hil : i ≤ s.length
    · have j4 := j4 hil
      have hal : a.length ≤ s.length + 1 := by
        have := congrArg List.length j4
        rw [List.length_append] at this; omega
      have hmd : s.drop fr = (s.take i).drop fr ++ s.drop i := by
        conv => lhs; rw [← List.take_append_drop i s]
        rw [List.drop_append_of_le_length (by simp; omega)]
      by_cases hlt : i < s.length
      · have hix := ix_at hlt
        by_cases hc : s[i] = c
        · have hd : p = a ++ [(s.take i).drop fr] ++ Sp.split c (s.drop (i + 1)) := by
            rw [j4, hmd, List.drop_eq_getElem_cons hlt, hc, Sp.split_append j3]; simp
          repeat' (first | simp (disch := first | omega | assumption | decide) only [go_sem, hm, hz, ht, hr_, g0, g1, g7, g6, g5, hix, hc] | refine ifP_in (fun _ => ?_) (fun _ => ?_))
          refine ⟨(a ++ [(s.take i).drop fr], i + 1, i + 1), ⟨rfl, rfl, by simp, by simp, by simp only; omega, by simp, fun _ => hd, fun h => by simp only at h; omega⟩, by simp only; omega⟩
        · have hcn : ¬ s[i].toNat = c.toNat := fun h => hc (UInt8.toNat.inj h)
          have hci : ¬ ((s[i].toNat : Int) = (c.toNat : Int)) := by omega
          repeat' (first | simp (disch := first | omega | assumption | decide) only [go_sem, hm, hz, ht, hr_, g0, g1, g7, g6, g5, hix] | refine ifP_in (fun _ => ?_) (fun _ => ?_))
          refine ⟨(a, fr, i + 1), ⟨rfl, rfl, rfl, by simp only; omega, by simp only; omega, ?_, fun _ => j4, fun h => by simp only at h; omega⟩, by simp only; omega⟩
          simp only
          rw [bytes_snoc hlt, List.drop_append_of_le_length (by simp; omega), List.mem_append, not_or]
          exact ⟨j3, by simp; exact fun h => hc h.symm⟩
      · have he : i = s.length := by omega
        have hd : p = a ++ [(s.take i).drop fr] := by
          rw [j4, hmd, he, List.drop_length, List.append_nil, Sp.split_none (by rw [he] at j3; exact j3)]
        repeat' (first | simp (disch := first | omega | assumption | decide) only [go_sem, hm, hz, ht, hr_, g0, g1, g7, g6, g5] | refine ifP_in (fun _ => ?_) (fun _ => ?_))
        refine ⟨(a ++ [(s.take i).drop fr], i + 1, i + 1), ⟨rfl, rfl, by simp, by simp, by simp only; omega, by simp, fun h => by simp only at h; omega, fun _ => hd⟩, by simp only; omega⟩
    · have he : i = s.length + 1 := by omega
      have hpa := j5 he
      subst hpa
      repeat' (first | simp (disch := first | omega | assumption | decide) only [go_sem, hm, hz, ht, hr_, g0, g1, g7, g6, g5] | refine ifP_in (fun _ => ?_) (fun _ => ?_))
theorem split_re (s : List UInt8) (c : UInt8) (hs : s.length ≤ 1000000) {Q : K (AV → Heap → Prop)} : @rF Tryd.prog cfg 33 [.str s, byteA c] H Q = Q.v (.sl ((Sp.split c s).map AV.str)) H := rF_eq (split_r s c hs)
theorem split_we (s : List UInt8) (c : UInt8) (hs : s.length ≤ 1000000) {Q : K (AV → Heap → Prop)} : @rF Tryd.prog cfg 30 [.str s, .str [c]] H Q = Q.v (.sl ((Sp.split c s).map AV.str)) H := rF_eq (split_at_ok rfl (by omega))
theorem hasPrefix_w (s p : List UInt8) : WF Tryd.prog cfg 76 [.str s, .str p] H (fun r H' => r = .b (decide (s.take p.length = p)) ∧ H' = H) := by
  have hm : ∀ d, cfg.muF 76 d = (false) := fun _ => rfl
  have hz : ∀ d, cfg.fzF 76 d = (false) := fun _ => rfl
  have ht : ∀ d, cfg.tkF 76 d = (false) := fun _ => rfl
  have hr_ : ∀ g, cfg.raw g = (g == 60 || g == 63) := fun _ => rfl
  refine rF_fn rfl rfl Tryd.func76 rfl ?_
  by_cases h : p.length ≤ s.length
  · repeat' (first | simp (disch := first | omega | assumption | decide) only [go_sem, hm, hz, ht, hr_] | refine ifP_in (fun _ => ?_) (fun _ => ?_))
  · have : ¬ s.take p.length = p := fun he => by have := congrArg List.length he; simp at this; omega
    repeat' (first | simp (disch := first | omega | assumption | decide) only [go_sem, hm, hz, ht, hr_] | refine ifP_in (fun _ => ?_) (fun _ => ?_))
    rw [decide_eq_false this]
theorem hasPrefix_we (s p : List UInt8) {Q : K (AV → Heap → Prop)} : @rF Tryd.prog cfg 76 [.str s, .str p] H Q = Q.v (.b (decide (s.take p.length = p))) H := rF_eq (hasPrefix_w s p)
theorem cutPrefix_w (s p : List UInt8) : WF Tryd.prog cfg 31 [.str s, .str p] H (fun r H' => r = .tup [.str (if s.take p.length = p then s.drop p.length else s), .b (decide (s.take p.length = p))] ∧ H' = H) := by
  have h1 : WF Tryd.prog cfg 57 [.str s, .str p] H (fun r H' => r = .tup [.str (if s.take p.length = p then s.drop p.length else s), .b (decide (s.take p.length = p))] ∧ H' = H) := by
    have hm : ∀ d, cfg.muF 57 d = (false) := fun _ => rfl
    have hz : ∀ d, cfg.fzF 57 d = (false) := fun _ => rfl
    have ht : ∀ d, cfg.tkF 57 d = (false) := fun _ => rfl
    have hr_ : ∀ g, cfg.raw g = (g == 60 || g == 63) := fun _ => rfl
    refine rF_fn rfl rfl Tryd.func57 rfl ?_
    by_cases h : s.take p.length = p
    · have hl : p.length ≤ s.length := by have := congrArg List.length h; simp at this; omega
      repeat' (first | simp (disch := first | omega | assumption | decide) only [go_sem, hm, hz, ht, hr_, hasPrefix_we, decide_eq_true h] | refine ifP_in (fun _ => ?_) (fun _ => ?_))
      rw [if_pos h]
    · repeat' (first | simp (disch := first | omega | assumption | decide) only [go_sem, hm, hz, ht, hr_, hasPrefix_we, decide_eq_false h] | refine ifP_in (fun _ => ?_) (fun _ => ?_))
      rw [if_neg h]
  have hm : ∀ d, cfg.muF 31 d = (false) := fun _ => rfl
  have hz : ∀ d, cfg.fzF 31 d = (false) := fun _ => rfl
  have ht : ∀ d, cfg.tkF 31 d = (false) := fun _ => rfl
  have hr_ : ∀ g, cfg.raw g = (g == 60 || g == 63) := fun _ => rfl
  refine rF_fn rfl rfl Tryd.func31 rfl ?_
  repeat' (first | simp (disch := first | omega | assumption | decide) only [go_sem, hm, hz, ht, hr_, rF_eq h1] | refine ifP_in (fun _ => ?_) (fun _ => ?_))
theorem cutPrefix_we (s p : List UInt8) {Q : K (AV → Heap → Prop)} : @rF Tryd.prog cfg 31 [.str s, .str p] H Q = Q.v (.tup [.str (if s.take p.length = p then s.drop p.length else s), .b (decide (s.take p.length = p))]) H := rF_eq (cutPrefix_w s p)
end Ut
end Go.Proofs
