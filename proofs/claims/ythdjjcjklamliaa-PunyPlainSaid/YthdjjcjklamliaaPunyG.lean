/- Walks through Encode. -/
import Derived.Test.YthdjjcjklamliaaPunyF
set_option linter.unusedVariables false
set_option linter.unusedSimpArgs false
namespace Go.Proofs
open Go.Lv
namespace Pu
variable {H : Heap}

theorem ix_mem {l : List Int} {i : Nat} (h : i < l.length) : ix l (i : Int) ∈ l := by
  simp [ix, List.getD_eq_getElem?_getD, List.getElem?_eq_getElem h]
theorem plain_take {l : List Int} {i : Nat} (h : i < l.length) : Puny.plain (l.take (i + 1)) = Puny.plain (l.take i) ++ if ix l (i : Int) < 128 then [UInt8.ofNat (ix l (i : Int)).toNat] else [] := by
  rw [List.take_add_one, List.getElem?_eq_getElem h]
  have : ix l (i : Int) = l[i] := by simp [ix, List.getD_eq_getElem?_getD, List.getElem?_eq_getElem h]
  rw [this]
  unfold Puny.plain
  rw [List.filter_append, List.map_append]
  congr 1
  by_cases hc : l[i] < 128 <;> simp [hc]
theorem all_take {l : List Int} {i : Nat} (h : i < l.length) : (l.take (i + 1)).all Puny.scalar = ((l.take i).all Puny.scalar && Puny.scalar (ix l (i : Int))) := by
  rw [List.take_add_one, List.getElem?_eq_getElem h]
  have : ix l (i : Int) = l[i] := by simp [ix, List.getD_eq_getElem?_getD, List.getElem?_eq_getElem h]
  rw [this, List.all_append]; simp

theorem encode_w (l : List Int) (hl : l.length ≤ 140737488355328) : WF Try.prog cfg 9 [.sl (l.map fun n => AV.v (.int .i64 n))] H (fun r H' => r = .tup [.str (Puny.encode l).1, .i (Puny.encode l).2] ∧ H' = H) := by
  have hm : ∀ d, cfg.muF 9 d = (false) := fun _ => rfl
  have hz : ∀ d, cfg.fzF 9 d = (false) := fun _ => rfl
  refine rF_fn rfl rfl Try.func9 rfl ?_
  repeat' (first | simp (disch := first | omega | assumption | decide) only [go_sem, hm, hz] | refine ifP_in (fun _ => ?_) (fun _ => ?_))
  · rw [Puny.encode, if_pos (by omega)]
  have hl : l.length ≤ 256 := by omega
  refine rL_loop (σ := Nat) (fun i e H' => H' = H ∧ e 0 = .sl (l.map fun n => AV.v (.int .i64 n)) ∧ e 18 = .sl (l.map fun n => AV.v (.int .i64 n)) ∧ e 19 = .i l.length ∧ e 20 = .i i ∧ i ≤ l.length ∧ e 4 = .sl ((Puny.plain (l.take i)).map byteA) ∧ (l.take i).all Puny.scalar = true) (fun i => l.length - i) 0 ?_ ?_
  · refine ⟨rfl, ?_, ?_, ?_, ?_, by omega, ?_, rfl⟩ <;> simp (disch := first | assumption | omega) only [go_sem] <;> rfl
  · rintro i e H ⟨rfl, g0, g18, g19, g20, gi, g4, ga⟩
    have hpl : (Puny.plain (l.take i)).length ≤ 256 := by
      unfold Puny.plain
      rw [List.length_map]
      have := List.length_filter_le (fun c : Int => decide (c < 128)) (l.take i)
      simp at this; omega
    repeat' (first | simp (disch := first | omega | assumption | decide) only [go_sem, hm, hz, g0, g18, g19, g20, g4] | refine ifP_in (fun _ => ?_) (fun _ => ?_))
    · have hlt : i < l.length := by omega
      refine rF_use (scalar_w _) ?_
      rintro _ H ⟨rfl, rfl⟩
      have hap := plain_take hlt
      have haa := all_take hlt
      cases hsc : Puny.scalar (ix l (i : Int)) with
      | false =>
        repeat' (first | simp (disch := first | omega | assumption | decide) only [go_sem, hm, hz, g0, g18, g19, g20, g4] | refine ifP_in (fun _ => ?_) (fun _ => ?_))
        have : Puny.encode l = ([], 1) := by
          rw [Puny.encode, if_neg (by omega)]
          unfold Puny.enc
          rw [if_neg]
          intro h
          rw [List.all_eq_true] at h
          have := h _ (ix_mem hlt)
          rw [hsc] at this; cases this
        rw [this]
      | true =>
        have hs := Puny.scalar_bnd hsc
        rw [ga, hsc] at haa
        repeat' (first | simp (disch := first | omega | assumption | decide) only [go_sem, hm, hz, g0, g18, g19, g20, g4] | refine ifP_in (fun _ => ?_) (fun _ => ?_))
        · rename_i hc
          rw [if_pos hc] at hap
          refine ⟨i + 1, ⟨by simp, by omega, ?_, haa⟩, by omega⟩
          rw [hap]
        · rename_i hc
          rw [if_neg hc, List.append_nil] at hap
          refine ⟨i + 1, ⟨by simp, by omega, ?_, haa⟩, by omega⟩
          rw [hap]
    all_goals
      obtain rfl : i = l.length := by omega
      simp only [List.take_length] at *
      have henc : Puny.encode l = (Puny.eLoop l (Puny.plain l).length l.length 128 (Puny.dash (Puny.plain l), 0, 72, (Puny.plain l).length), 0) := by
        rw [Puny.encode, if_neg (by omega), Puny.enc, if_pos ga]
      have hall : ∀ c ∈ l, c ≤ 1114111 := fun c hc => (Puny.scalar_bnd (List.all_eq_true.1 ga c hc)).2
      have hd : (Puny.dash (Puny.plain l)).length ≤ 257 := by unfold Puny.dash; split <;> first | omega | (simp; omega)
      have hd1 : (if 0 < (Puny.plain l).length then Puny.plain l ++ [45] else Puny.plain l) = Puny.dash (Puny.plain l) := by
        unfold Puny.dash; split <;> split <;> first | rfl | omega
      have hbas := Puny.plain_len l
      rw [henc]
      clear henc g18 g19 g20 gi ga
      generalize Puny.plain l = p at *
      generalize hdd : Puny.dash p = p0 at *
      generalize hT : Puny.eLoop l p.length l.length 128 (p0, 0, 72, p.length) = T
      clear hdd
      let I : Nat × Int × (List UInt8 × Int × Int × Int) → Env → Heap → Prop := fun z e H'' => H'' = H ∧ e 0 = .sl (l.map fun n => AV.v (.int .i64 n)) ∧ e 7 = .i p.length ∧ e 9 = .i z.2.1 ∧ e 4 = .sl (z.2.2.1.map byteA) ∧ e 10 = .i z.2.2.2.1 ∧ e 11 = .i z.2.2.2.2.1 ∧ e 8 = .i z.2.2.2.2.2 ∧ 128 ≤ z.2.1 ∧ z.2.1 ≤ 1114112 ∧ 0 ≤ z.2.2.2.1 ∧ z.2.2.2.1 ≤ 257 ∧ 0 ≤ z.2.2.2.2.1 ∧ z.2.2.2.2.1 ≤ 400 ∧ z.2.2.2.2.2 = (l.countP fun c => decide (c < z.2.1)) ∧ (z.2.2.1.length : Int) ≤ 257 + 11 * z.2.2.2.2.2 ∧ (l.length : Int) ≤ z.1 + z.2.2.2.2.2 ∧ Puny.eLoop l p.length z.1 z.2.1 z.2.2 = T
      all_goals
        refine rL_loop I (fun z => z.1) (l.length, 128, p0, 0, 72, (p.length : Int)) ?_ ?_
        · refine ⟨rfl, ?_, ?_, ?_, ?_, ?_, ?_, ?_, (by first | omega | (simp only; omega) | (simp; done) | (simp; omega)), (by first | omega | (simp only; omega) | (simp; done) | (simp; omega)), (by first | omega | (simp only; omega) | (simp; done) | (simp; omega)), (by first | omega | (simp only; omega) | (simp; done) | (simp; omega)), (by first | omega | (simp only; omega) | (simp; done) | (simp; omega)), (by first | omega | (simp only; omega) | (simp; done) | (simp; omega)), by simp only; rw [hbas], (by first | omega | (simp only; omega) | (simp; done) | (simp; omega)), (by first | omega | (simp only; omega) | (simp; done) | (simp; omega)), hT⟩ <;> simp (disch := first | assumption | omega) only [go_sem, g0, g4]
          all_goals (rw [← hd1]; first | (rw [if_pos (by omega)]; rfl) | (rw [if_neg (by omega)]))
        · clear g0 g4
          rintro ⟨k, n, b, delta, bias, done⟩ e H ⟨rfl, g0, g7, g9, g4, g10, g11, g8, i1, i2, i3, i4, i5, i6, i7, i8, i9, i10⟩
          simp only at g0 g7 g9 g4 g10 g11 g8 i1 i2 i3 i4 i5 i6 i7 i8 i9 i10
          have hcl : (l.countP fun c => decide (c < n)) ≤ l.length := List.countP_le_length
          repeat' (first | simp (disch := first | omega | assumption | decide) only [go_sem, hm, hz, g0, g7, g9, g4, g10, g11, g8] | refine ifP_in (fun _ => ?_) (fun _ => ?_))
          · have hlt : (l.countP fun c => decide (c < n)) < l.length := by omega
            refine rF_use (next_w l n (by omega)) ?_
            rintro _ H ⟨rfl, rfl⟩
            have hnx := Puny.nxt_spec (Puny.count_lt hlt) hall
            have hsp := Puny.countP_split l n (Puny.nxt l n) hnx.2.1 hnx.2.2.2
            have hpos : 0 < l.countP fun c => decide (c = Puny.nxt l n) := List.countP_pos_iff.2 ⟨_, hnx.1, by simp⟩
            obtain ⟨k, rfl⟩ : ∃ k', k = k' + 1 := ⟨k - 1, by omega⟩
            rw [Puny.eLoop, if_pos (by omega)] at i10
            unfold Puny.eRound at i10
            simp only at i10
            generalize Puny.nxt l n = m at *
            have hm1 : (m - n) * (done + 1) ≤ 1114112 * 257 := Int.mul_le_mul (by omega) (by omega) (by omega) (by omega)
            have hm2 : 0 ≤ (m - n) * (done + 1) := Int.mul_nonneg (by omega) (by omega)
            have hps := Puny.pass_bnd m p.length (1114112 * 257 + 1000) (by omega)
            generalize hs0 : (b, delta + (m - n) * (done + 1), bias, done) = s0 at *
            have hs1 : s0.1 = b := by rw [← hs0]
            have hs1' : s0.1.length = b.length := by rw [hs1]
            have hs2 : s0.2.1 = delta + (m - n) * (done + 1) := by rw [← hs0]
            have hs3 : s0.2.2.1 = bias := by rw [← hs0]
            have hs4 : s0.2.2.2 = done := by rw [← hs0]
            repeat' (first | simp (disch := first | omega | assumption | decide) only [go_sem, hm, hz, g0, g7, g9, g4, g10, g11, g8] | refine ifP_in (fun _ => ?_) (fun _ => ?_))
            refine rL_loop (σ := Nat) (fun i e K => K = H ∧ e 0 = .sl (l.map fun n => AV.v (.int .i64 n)) ∧ e 7 = .i p.length ∧ e 9 = .i m ∧ e 61 = .sl (l.map fun n => AV.v (.int .i64 n)) ∧ e 62 = .i l.length ∧ e 63 = .i i ∧ i ≤ l.length ∧
              e 4 = .sl (((l.take i).foldl (Puny.eStep m p.length) s0).1.map byteA) ∧ e 10 = .i ((l.take i).foldl (Puny.eStep m p.length) s0).2.1 ∧ e 11 = .i ((l.take i).foldl (Puny.eStep m p.length) s0).2.2.1 ∧ e 8 = .i ((l.take i).foldl (Puny.eStep m p.length) s0).2.2.2) (fun i => l.length - i) 0 ?_ ?_
            · refine ⟨rfl, ?_, ?_, ?_, ?_, ?_, ?_, by omega, ?_, ?_, ?_, ?_⟩ <;> simp (disch := first | assumption | omega) only [go_sem, g0, g7, g9, g4, g10, g11, g8, List.take_zero, List.foldl_nil, hs1, hs2, hs3, hs4, Int.ofNat_zero]
            · clear g0 g7 g9 g4 g10 g11 g8
              rintro i e H ⟨rfl, g0, g7, g9, g61, g62, g63, gi, g4, g10, g11, g8⟩
              have hb := hps (l.take i) s0 (by omega) (by rw [List.length_take]; omega) (by omega) (by omega) (by omega) (by omega)
              simp only at hb
              rw [List.length_take] at hb
              have hci : ((l.take i).countP fun c => decide (c = m)) ≤ l.length := by
                have := List.countP_le_length (p := fun c => decide (c = m)) (l := l.take i)
                rw [List.length_take] at this; omega
              have hnext : ∀ h : i < l.length, (l.take (i + 1)).foldl (Puny.eStep m p.length) s0 = Puny.eStep m p.length ((l.take i).foldl (Puny.eStep m p.length) s0) (ix l (i : Int)) := fun h => foldl_take _ _ _ _ h
              by_cases hil : i < l.length
              · have hnext := hnext hil
                generalize (l.take i).foldl (Puny.eStep m p.length) s0 = r at *
                obtain ⟨rb, rd, rbi, rdo⟩ := r
                simp only at g4 g10 g11 g8 hb
                repeat' (first | simp (disch := first | omega | assumption | decide) only [go_sem, hm, hz, g0, g7, g9, g61, g62, g63, g4, g10, g11, g8] | refine ifP_in (fun _ => ?_) (fun _ => ?_))
                · rename_i hlt2
                  refine ⟨i + 1, ⟨rfl, by omega, ?_⟩, by omega⟩
                  rw [hnext, Puny.eStep, if_pos hlt2]
                  exact ⟨rfl, rfl, rfl, rfl⟩
                · rename_i hlt2 heq
                  rw [Puny.eStep, if_neg hlt2, if_pos heq] at hnext
                  refine rF_use (number_w rb rd rbi (by omega) (by omega) (by omega)) ?_
                  rintro _ H ⟨rfl, rfl⟩
                  repeat' (first | simp (disch := first | omega | assumption | decide) only [go_sem, hm, hz, g0, g7, g9, g61, g62, g63, g4, g10, g11, g8] | refine ifP_in (fun _ => ?_) (fun _ => ?_))
                  refine rF_use (adapt_w rd (rdo + 1) (decide (rdo = p.length)) (by omega) (by omega)) ?_
                  rintro _ H ⟨rfl, rfl⟩
                  repeat' (first | simp (disch := first | omega | assumption | decide) only [go_sem, hm, hz, g0, g7, g9, g61, g62, g63, g4, g10, g11, g8] | refine ifP_in (fun _ => ?_) (fun _ => ?_))
                  refine ⟨i + 1, ⟨rfl, by omega, ?_⟩, by omega⟩
                  rw [hnext]
                  exact ⟨rfl, rfl, rfl, rfl⟩
                · rename_i hlt2 hne
                  rw [Puny.eStep, if_neg hlt2, if_neg hne] at hnext
                  refine ⟨i + 1, ⟨rfl, by omega, ?_⟩, by omega⟩
                  rw [hnext]
                  exact ⟨rfl, rfl, rfl, rfl⟩
              · obtain rfl : i = l.length := by omega
                rw [List.take_length] at *
                generalize l.foldl (Puny.eStep m p.length) s0 = r at *
                obtain ⟨rb, rd, rbi, rdo⟩ := r
                simp only at g4 g10 g11 g8 hb i10
                repeat' (first | simp (disch := first | omega | assumption | decide) only [go_sem, hm, hz, g0, g7, g9, g61, g62, g63, g4, g10, g11, g8] | refine ifP_in (fun _ => ?_) (fun _ => ?_))
                refine ⟨(k, m + 1, rb, rd + 1, rbi, rdo), ⟨rfl, (by simp (disch := first | omega | assumption | decide) only [go_sem, *] <;> rfl), (by simp (disch := first | omega | assumption | decide) only [go_sem, *] <;> rfl), (by simp (disch := first | omega | assumption | decide) only [go_sem, *] <;> rfl), (by simp (disch := first | omega | assumption | decide) only [go_sem, *] <;> rfl), (by simp (disch := first | omega | assumption | decide) only [go_sem, *] <;> rfl), (by simp (disch := first | omega | assumption | decide) only [go_sem, *] <;> rfl), (by simp (disch := first | omega | assumption | decide) only [go_sem, *] <;> rfl), (by first | omega | (simp only; omega) | (simp; done) | (simp; omega)), (by first | omega | (simp only; omega) | (simp; done) | (simp; omega)), (by first | omega | (simp only; omega) | (simp; done) | (simp; omega)), (by first | omega | (simp only; omega) | (simp; done) | (simp; omega)), (by first | omega | (simp only; omega) | (simp; done) | (simp; omega)), (by first | omega | (simp only; omega) | (simp; done) | (simp; omega)), ?_, (by first | omega | (simp only; omega) | (simp; done) | (simp; omega)), ?_, i10⟩, (by first | omega | (simp only; omega) | (simp; done) | (simp; omega))⟩
                · simp only; omega
                · simp only; omega
          · have hend : l.length ≤ done := by omega
            have : b = T := by
              rw [← i10]
              cases k with
              | zero => rfl
              | succ k => rw [Puny.eLoop, if_neg (by omega)]
            rw [this]
end Pu
end Go.Proofs
