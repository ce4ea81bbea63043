/- Walks: the document's reading. -/
import Derived.Test.YticlhjamafdmfaaJrF
set_option linter.unusedVariables false
set_option linter.unusedSimpArgs false
namespace Go.Proofs
open Go.Lv
namespace Jn
variable {H : Heap}

theorem rRead_w (l : List UInt8) (hl : l.length = 2) : WF Try.prog cfg 54 [.sl (l.map byteA)] H (fun r H' => r = .i (Jr.get l) ∧ H' = H) := by
  have hm : ∀ d, cfg.muF 54 d = (false) := fun _ => rfl
  have hz : ∀ d, cfg.fzF 54 d = (false) := fun _ => rfl
  have ht : ∀ d, cfg.tkF 54 d = (false) := fun _ => rfl
  have hr_ : ∀ g, cfg.raw g = (g == 58 || g == 69) := fun _ => rfl
  refine rF_fn rfl rfl Try.func54 rfl ?_
  have hget : ∀ i, (h : i < l.length) → Jr.get (l.take (i + 1)) = Jr.get (l.take i) * 256 + (l.getD i 0).toNat := by
    intro i h
    rw [List.take_succ_eq_append_getElem h, Jr.get, List.foldl_append]
    simp [Jr.get, List.getD_eq_getElem?_getD, h]
  have hbnd : ∀ i, i < 2 → Jr.get (l.take i) < 1099511627776 := by
    intro i hi
    match i, hi with
    | 0, _ => simp [Jr.get]
    | 1, _ =>
      cases l with
      | nil => simp [Jr.get]
      | cons b l => have := b.toNat_lt; simp [Jr.get]; omega
  repeat' (first | simp (disch := first | omega | assumption | decide) only [go_sem, hm, hz, ht, hr_] | refine ifP_in (fun _ => ?_) (fun _ => ?_))
  refine rL_loop (σ := Nat) (fun i e H' => H' = H ∧ e 0 = .sl (l.map byteA) ∧ e 4 = .i i ∧ i ≤ 2 ∧ e 3 = .i (Jr.get (l.take i))) (fun i => 2 - i) 0 ?_ ?_
  · refine ⟨rfl, ?_, ?_, by omega, ?_⟩
    all_goals first | (simp (disch := first | assumption | omega) only [go_sem]; done) | (simp (disch := first | assumption | omega) only [go_sem]; rfl)
  · rintro i e H' ⟨rfl, g0, g4, i1, g3⟩
    by_cases hi : i < 2
    · have hb := hbnd i hi
      have hg := hget i (by omega)
      have hix : ix l (i : Int) = l.getD i 0 := by simp [ix]; rfl
      repeat' (first | simp (disch := first | omega | assumption | decide) only [go_sem, hm, hz, ht, hr_, g0, g4, g3, or_byte hb, hix] | refine ifP_in (fun _ => ?_) (fun _ => ?_))
      refine ⟨i + 1, ⟨by congr 2, by omega, ?_⟩, by omega⟩
      rw [hg]
    · have : i = 2 := by omega
      subst this
      repeat' (first | simp (disch := first | omega | assumption | decide) only [go_sem, hm, hz, ht, hr_, g0, g4, g3] | refine ifP_in (fun _ => ?_) (fun _ => ?_))
      rw [List.take_of_length_le (by omega)]

theorem next_short (b : List UInt8) (h : b.length < 6) : (Jr.next b).2 = false := by
  unfold Jr.next
  split
  · rfl
  · rw [if_pos (.inr (by omega))]
theorem append_bytes {P : Program} {xs : List (List UInt8)} {y : List UInt8} {el el' : TypeId} [h : SizeIs P el 1] :
    appendD P (some (.slice el)) (some (.slice el')) (.sl (xs.map AV.bytes)) (.sl [.sl (y.map byteA)]) = roomD 1 (sizeT P el) (bytesT P el) (zeroA P el) (xs.length + 1) (.sl ((xs ++ [y]).map AV.bytes)) :=
  append_one (f := AV.bytes) (y := y)
theorem rScan_w (b : List UInt8) (hb : b.length < 1000000) : WF Try.prog cfg 16 [.sl (b.map byteA)] H (fun r H' => r = .tup [.sl ((Jr.scan b).1.map AV.bytes), .i (Jr.scan b).2] ∧ H' = H) := by
  have hm : ∀ d, cfg.muF 16 d = (false) := fun _ => rfl
  have hz : ∀ d, cfg.fzF 16 d = (false) := fun _ => rfl
  have ht : ∀ d, cfg.tkF 16 d = (false) := fun _ => rfl
  have hr_ : ∀ g, cfg.raw g = (g == 58 || g == 69) := fun _ => rfl
  refine rF_fn rfl rfl Try.func16 rfl ?_
  repeat' (first | simp (disch := first | omega | assumption | decide) only [go_sem, hm, hz, ht, hr_] | refine ifP_in (fun _ => ?_) (fun _ => ?_))
  refine rL_loop (σ := Nat × Nat × List (List UInt8)) (fun z e H' => H' = H ∧ e 0 = .sl (b.map byteA) ∧ e 5 = .i z.2.1 ∧ z.2.1 ≤ b.length ∧ e 4 = .sl (z.2.2.map AV.bytes) ∧ z.2.2.length ≤ z.2.1 ∧ b.length + 1 ≤ z.1 + z.2.1 ∧ Jr.scan b = (z.2.2 ++ (Jr.scanF z.1 (b.drop z.2.1)).1, z.2.1 + (Jr.scanF z.1 (b.drop z.2.1)).2)) (fun z => b.length - z.2.1) (b.length + 1, 0, []) ?_ ?_
  · refine ⟨rfl, ?_, ?_, by simp, ?_, by simp, by simp, by simp [Jr.scan]⟩
    all_goals first | (simp (disch := first | assumption | omega) only [go_sem]; done) | (simp (disch := first | assumption | omega) only [go_sem]; rfl)
  · rintro ⟨k, at_, l⟩ e K ⟨rfl, g0, g5, i1, g4, i2, i3, i4⟩
    simp only at g0 g5 i1 g4 i2 i3 i4
    obtain ⟨k, rfl⟩ : ∃ k', k = k' + 1 := ⟨k - 1, by omega⟩
    rw [Jr.scanF] at i4
    by_cases h6 : 6 ≤ b.length - at_
    · repeat' (first | simp (disch := first | omega | assumption | decide) only [go_sem, hm, hz, ht, hr_, g0, g4, g5] | refine ifP_in (fun _ => ?_) (fun _ => ?_))
      have hrl : (b.drop at_).length = b.length - at_ := by simp
      have e2 : (b.take ((at_ : Int) + 2).toNat).drop at_ = (b.drop at_).take 2 := by rw [show ((at_ : Int) + 2).toNat = at_ + 2 by omega, List.drop_take]; congr 1; omega
      rw [e2]
      refine rF_use (rRead_w ((b.drop at_).take 2) (by rw [List.length_take]; omega)) ?_
      rintro _ K1 ⟨rfl, rfl⟩
      have hlt := get2_lt (b.drop at_)
      have hnx : Jr.next (b.drop at_) = if 60000 < Jr.get ((b.drop at_).take 2) ∨ (b.drop at_).length < 6 + Jr.get ((b.drop at_).take 2) then ([], false) else
          (((b.drop at_).drop 6).take (Jr.get ((b.drop at_).take 2)), decide (Jr.frame (((b.drop at_).drop 6).take (Jr.get ((b.drop at_).take 2))) = (b.drop at_).take (6 + Jr.get ((b.drop at_).take 2)))) := by
        rw [Jr.next, if_neg (by omega)]
      rw [if_neg (by omega)] at i4
      generalize hn : Jr.get ((b.drop at_).take 2) = n at *
      by_cases hbad : 60000 < n ∨ (b.drop at_).length < 6 + n
      · rw [if_pos hbad] at hnx
        rw [hnx] at i4
        simp only [Bool.false_eq_true, if_false, List.append_nil, Nat.add_zero] at i4
        rw [i4]
        by_cases hb1 : 60000 < n
        · repeat' (first | simp (disch := first | omega | assumption | decide) only [go_sem, hm, hz, ht, hr_, g0, g4, g5] | refine ifP_in (fun _ => ?_) (fun _ => ?_))
        · repeat' (first | simp (disch := first | omega | assumption | decide) only [go_sem, hm, hz, ht, hr_, g0, g4, g5] | refine ifP_in (fun _ => ?_) (fun _ => ?_))
      · rw [if_neg hbad] at hnx
        rw [hrl] at hbad
        have e3 : (b.take ((at_ : Int) + 6 + n).toNat).drop ((at_ : Int) + 6).toNat = ((b.drop at_).drop 6).take n := by
          rw [show ((at_ : Int) + 6 + n).toNat = at_ + 6 + n by omega, show ((at_ : Int) + 6).toNat = at_ + 6 by omega, List.drop_take, List.drop_drop]; congr 1; omega
        have e4 : (b.take ((at_ : Int) + 6 + n).toNat).drop at_ = (b.drop at_).take (6 + n) := by
          rw [show ((at_ : Int) + 6 + n).toNat = at_ + 6 + n by omega, List.drop_take]; congr 1; omega
        have hpl : (((b.drop at_).drop 6).take n).length = n := by simp; omega
        generalize hp : ((b.drop at_).drop 6).take n = p at *
        repeat' (first | simp (disch := first | omega | assumption | decide) only [go_sem, hm, hz, ht, hr_, g0, g4, g5] | refine ifP_in (fun _ => ?_) (fun _ => ?_))
        rw [e3]
        refine rF_use (rCopy_w p (by omega)) ?_
        rintro _ K2 ⟨rfl, rfl⟩
        repeat' (first | simp (disch := first | omega | assumption | decide) only [go_sem, hm, hz, ht, hr_, g0, g4, g5] | refine ifP_in (fun _ => ?_) (fun _ => ?_))
        refine rF_use (rFrame_w p (by omega)) ?_
        rintro _ K3 ⟨rfl, rfl⟩
        rw [if_neg (by omega)]
        repeat' (first | simp (disch := first | omega | assumption | decide) only [go_sem, hm, hz, ht, hr_, g0, g4, g5] | refine ifP_in (fun _ => ?_) (fun _ => ?_))
        rw [e4]
        refine rF_use (rBytes_w (Jr.frame p) ((b.drop at_).take (6 + n)) rfl rfl) ?_
        rintro _ K4 ⟨rfl, rfl⟩
        rw [hnx] at i4
        simp only [decide_eq_true_eq] at i4
        by_cases hf : Jr.frame p = (b.drop at_).take (6 + n)
        · rw [if_pos hf] at i4
          repeat' (first | simp (disch := first | omega | assumption | decide) only [go_sem, hm, hz, ht, hr_, g0, g4, g5, append_bytes] | refine ifP_in (fun _ => ?_) (fun _ => ?_))
          · exact absurd hf (by assumption)
          refine ⟨(k, at_ + (6 + n), l ++ [p]), ⟨?_, ?_, rfl, ?_, ?_, ?_⟩, ?_⟩
          · simp only; congr 2; omega
          · simp only; omega
          · simp; omega
          · simp only; omega
          · simp only
            rw [i4, List.drop_drop, hpl]
            simp [Nat.add_assoc]
          · simp only; omega
        · rw [if_neg hf] at i4
          simp only [List.append_nil, Nat.add_zero] at i4
          rw [i4]
          repeat' (first | simp (disch := first | omega | assumption | decide) only [go_sem, hm, hz, ht, hr_, g0, g4, g5] | refine ifP_in (fun _ => ?_) (fun _ => ?_))
    · have hz0 : Jr.scan b = (l, at_) := by
        rw [i4]
        by_cases h0 : (b.drop at_).length = 0
        · rw [if_pos h0]; simp
        · rw [if_neg h0, if_neg (by rw [next_short _ (by simp; omega)]; simp)]; simp
      repeat' (first | simp (disch := first | omega | assumption | decide) only [go_sem, hm, hz, ht, hr_, g0, g4, g5] | refine ifP_in (fun _ => ?_) (fun _ => ?_))
      rw [hz0]
end Jn
end Go.Proofs
