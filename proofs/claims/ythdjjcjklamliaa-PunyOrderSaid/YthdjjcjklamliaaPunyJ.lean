/- Walks through the document's reading of signs by few letters. -/
import Derived.Test.YthdjjcjklamliaaPunyI
set_option linter.unusedVariables false
set_option linter.unusedSimpArgs false
namespace Go.Proofs
open Go.Lv
namespace Pu
variable {H : Heap}

theorem last_step {s : List UInt8} {i : Nat} (h : i < s.length) (c : UInt8) : Puny.lastIx s c (i + 1) = if (ix s (i : Int)).toNat = c.toNat then (i : Int) else Puny.lastIx s c i := by
  rw [Puny.lastIx, ← ix_getD]
  by_cases hc : ix s (i : Int) = c
  · rw [if_pos hc, if_pos (by rw [hc])]
  · rw [if_neg hc, if_neg (fun h => hc (UInt8.toNat_inj.1 h))]

set_option maxHeartbeats 2000000 in
theorem unpuny_r (s : List UInt8) (hs : s.length ≤ 140737488355328) : WF Try.prog cfg 12 [.str s] H (fun r H' => r = .tup [.sl ((Puny.decode s).1.map iA), .i (Puny.decode s).2] ∧ H <+: H') := by
  have hm : ∀ d, cfg.muF 12 d = (d == 6 || d == 46 || d == 140) := fun _ => rfl
  have hz : ∀ d, cfg.fzF 12 d = (d == 2) := fun _ => rfl
  refine rF_fn rfl rfl Try.func12 rfl ?_
  repeat' (first | simp (disch := first | omega | assumption | decide) only [go_sem, hm, hz] | refine ifP_in (fun _ => ?_) (fun _ => ?_))
  · rw [Puny.decode, if_pos (by omega)]
    exact ⟨rfl, List.prefix_refl _⟩
  have hs : s.length ≤ 4000 := by omega
  have hbad : Puny.dec s = none → Puny.decode s = ([], 4) := fun h => by rw [Puny.decode, if_neg (by omega), h]
  have hgood : ∀ l, Puny.dec s = some l → Puny.decode s = (l, 0) := fun l h => by rw [Puny.decode, if_neg (by omega), h]
  refine rL_loop (σ := Nat) (fun i e H' => H' = H ∧ e 0 = .str s ∧ e 4 = .i (max (Puny.lastIx s 45 i) 0) ∧ e 5 = .i i ∧ i ≤ s.length ∧ ((s.take i).all fun c => decide (c.toNat < 128)) = true) (fun i => s.length - i) 0 ?_ ?_
  · exact ⟨rfl, (by simp (disch := first | omega | assumption | decide) only [go_sem, *] <;> rfl), (by simp (disch := first | omega | assumption | decide) only [go_sem, *] <;> rfl), (by simp (disch := first | omega | assumption | decide) only [go_sem, *] <;> rfl), by omega, rfl⟩
  · rintro i e H ⟨rfl, g0, g4, g5, gi, ga⟩
    by_cases hil : i < s.length
    · have hst := last_step hil 45
      have hge : ix s (i : Int) = s[i] := by simp [ix, List.getD_eq_getElem?_getD, List.getElem?_eq_getElem hil]
      have hall : (ix s (i : Int)).toNat < 128 → ((s.take (i + 1)).all fun c => decide (c.toNat < 128)) = true := by
        intro h
        rw [List.take_add_one, List.all_append, ga, List.getElem?_eq_getElem hil]
        rw [hge] at h
        simpa using h
      repeat' (first | simp (disch := first | omega | assumption | decide) only [go_sem, hm, hz, g0, g4, g5] | refine ifP_in (fun _ => ?_) (fun _ => ?_))
      · rw [hbad (dec_all hil (by omega))]
        exact ⟨rfl, List.prefix_refl _⟩
      · rename_i h1 h2
        rw [if_pos (by have : (45 : UInt8).toNat = 45 := rfl
                       omega)] at hst
        refine ⟨i + 1, ⟨by rw [hst]; congr 2; omega, by simp, by omega, hall (by omega)⟩, by omega⟩
      · rename_i h1 h2
        rw [if_neg (by have : (45 : UInt8).toNat = 45 := rfl
                       omega)] at hst
        refine ⟨i + 1, ⟨by rw [hst], by simp, by omega, hall (by omega)⟩, by omega⟩
    · obtain rfl : i = s.length := by omega
      rw [List.take_length] at ga
      have hcb := Puny.lastIx_bnd s 45 s.length
      have hdec : Puny.dec s = Puny.decL (s.length + 1) (if 0 < Puny.cutAt s then s.drop (Puny.cutAt s + 1).toNat else s) ((s.take (Puny.cutAt s).toNat).map fun c => (c.toNat : Int)) 128 0 72 := by
        unfold Puny.dec; rw [if_pos ga]
      unfold Puny.cutAt at hdec
      generalize Puny.lastIx s 45 s.length = cut at *
      repeat' (first | simp (disch := first | omega | assumption | decide) only [go_sem, hm, hz, g0, g4, g5] | refine ifP_in (fun _ => ?_) (fun _ => ?_))
      refine rL_loop (σ := Nat) (fun i e H' => H <+: H' ∧ e 0 = .str s ∧ e 4 = .i (max cut 0) ∧ e 7 = .i i ∧ i ≤ max cut 0 ∧ RowOf iA H.length H' (e 6) ((s.take i).map fun c => (c.toNat : Int))) (fun i => cut.toNat - i) 0 ?_ ?_
      · exact ⟨List.prefix_refl _, (by simp (disch := first | omega | assumption | decide) only [go_sem, *] <;> rfl), (by simp (disch := first | omega | assumption | decide) only [go_sem, *] <;> rfl), (by simp (disch := first | omega | assumption | decide) only [go_sem, *] <;> rfl), by omega, .inl ⟨(by simp (disch := first | omega | assumption | decide) only [go_sem, *] <;> rfl), rfl⟩⟩
      · clear g0 g4 g5
        rintro i e K ⟨hp, g0, g4, g7, gi, hr⟩
        generalize g6 : e 6 = a at *
        by_cases hil : i < cut
        · have hlt : i < s.length := by omega
          repeat' (first | simp (disch := first | omega | assumption | decide) only [go_sem, hm, hz, g0, g4, g6, g7] | refine ifP_in (fun _ => ?_) (fun _ => ?_))
          refine bind_append (f := iA) (ys := [((ix s (i : Int)).toNat : Int)]) hr hp ?_ (by simp) ?_ ?_
          · rfl
          · simp; omega
          intro a' K hr' hp'
          repeat' (first | simp (disch := first | omega | assumption | decide) only [go_sem, hm, hz, g0, g4, g6, g7] | refine ifP_in (fun _ => ?_) (fun _ => ?_))
          refine ⟨i + 1, ⟨hp', rfl, by omega, ?_⟩, by omega⟩
          rw [bytes_take hlt]
          exact hr'
        · have hmi : max cut 0 = (i : Int) := by omega
          rw [hmi] at g4
          repeat' (first | simp (disch := first | omega | assumption | decide) only [go_sem, hm, hz, g0, g4, g6, g7] | refine ifP_in (fun _ => ?_) (fun _ => ?_))
          · obtain ⟨at0, hat0⟩ : ∃ at0 : Nat, at0 = i + 1 := ⟨_, rfl⟩
            have hdec : Puny.dec s = Puny.decL (s.length + 1) (s.drop at0) ((s.take i).map fun c => (c.toNat : Int)) 128 0 72 := by
              rw [hdec, if_pos (by omega), hat0]
              rw [show (cut + 1).toNat = i + 1 by omega, show cut.toNat = i by omega]
            have hae : (i : Int) + 1 = (at0 : Int) := by omega
            refine rL_loop (σ := Nat × Nat × List Int × Int × Int × Int) (fun z e H' => H <+: H' ∧ e 0 = .str s ∧ e 8 = .i z.2.1 ∧ z.2.1 ≤ s.length ∧ e 9 = .i z.2.2.2.1 ∧ e 10 = .i z.2.2.2.2.1 ∧ e 11 = .i z.2.2.2.2.2 ∧ RowOf iA H.length H' (e 6) z.2.2.1 ∧ 0 ≤ z.2.2.2.1 ∧ z.2.2.2.1 ≤ 1114111 ∧ 0 ≤ z.2.2.2.2.1 ∧ z.2.2.2.2.1 ≤ 2147483647 ∧ 0 ≤ z.2.2.2.2.2 ∧ z.2.2.2.2.2 ≤ 400 ∧ z.2.2.1.length ≤ 4000 ∧ s.length + 1 ≤ z.1 + z.2.1 ∧ Puny.decL z.1 (s.drop z.2.1) z.2.2.1 z.2.2.2.1 z.2.2.2.2.1 z.2.2.2.2.2 = Puny.dec s) (fun z => s.length - z.2.1) (s.length + 1, at0, (s.take i).map (fun c => (c.toNat : Int)), 128, 0, 72) ?_ ?_
            · refine ⟨hp, (by simp (disch := first | omega | assumption | decide) only [go_sem, *] <;> rfl), ?_, (by first | omega | (simp only; omega) | (simp; done) | (simp; omega)), (by simp (disch := first | omega | assumption | decide) only [go_sem, *] <;> rfl), (by simp (disch := first | omega | assumption | decide) only [go_sem, *] <;> rfl), (by simp (disch := first | omega | assumption | decide) only [go_sem, *] <;> rfl), ?_, (by first | omega | (simp only; omega) | (simp; done) | (simp; omega)), (by first | omega | (simp only; omega) | (simp; done) | (simp; omega)), (by first | omega | (simp only; omega) | (simp; done) | (simp; omega)), (by first | omega | (simp only; omega) | (simp; done) | (simp; omega)), (by first | omega | (simp only; omega) | (simp; done) | (simp; omega)), (by first | omega | (simp only; omega) | (simp; done) | (simp; omega)), (by first | omega | (simp only; omega) | (simp; done) | (simp; omega)), (by first | omega | (simp only; omega) | (simp; done) | (simp; omega)), ?_⟩
              · simp (disch := first | omega | assumption | decide) only [go_sem, *]
              · simp (disch := first | omega | assumption | decide) only [go_sem, g6]; exact hr
              · exact hdec.symm
            · clear g0 g4 g6 g7 hr hp hdec
              rintro ⟨k, at_, l, n, i, bias⟩ e K ⟨hp, g0, g8, j1, g9, g10, g11, hr, j2, j3, j4, j5, j6, j7, j8, j9, j10⟩
              simp only at g0 g8 j1 g9 g10 g11 hr j2 j3 j4 j5 j6 j7 j8 j9 j10
              generalize g6 : e 6 = a at *
              have hlen : ∀ el, lenD (some (.slice el)) a = some (.v (.int .i64 l.length)) := fun el => hr.len
              obtain ⟨k, rfl⟩ : ∃ k', k = k' + 1 := ⟨k - 1, by omega⟩
              by_cases hat : at_ < s.length
              · have hsh := Puny.deltaR_shift bias (s.drop at_) 0 at_ i 1 36
                rw [Int.zero_add] at hsh
                have hbn := Puny.deltaR_bnd bias (s.drop at_) 0 i 1 36
                have hln : ¬ (s.drop at_).length = 0 := by simp; omega
                generalize hD : Puny.deltaR (s.drop at_) at_ i 1 36 bias = D at *
                have hDn : D = none → Puny.dec s = none := by
                  intro h
                  rw [h] at hsh
                  have : Puny.deltaR (s.drop at_) 0 i 1 36 bias = none := by
                    cases hq : Puny.deltaR (s.drop at_) 0 i 1 36 bias with
                    | none => rfl
                    | some q => rw [hq] at hsh; cases hsh
                  rw [← j10, Puny.decL]
                  split
                  · rfl
                  · first | rw [if_neg hln, this] | rw [this]
                have hDs : ∀ x e, D = some (x, e) → at_ < e ∧ e ≤ s.length ∧ i ≤ x ∧ x ≤ 2147483647 ∧ (256 < l.length ∨ 2147483647 < n + x / (l.length + 1) ∨ Puny.scalar (n + x / (l.length + 1)) = false → Puny.dec s = none) ∧
                    (l.length ≤ 256 → ¬ 2147483647 < n + x / (l.length + 1) → Puny.scalar (n + x / (l.length + 1)) = true → Puny.decL k (s.drop e.toNat) (l.take (x % (l.length + 1)).toNat ++ (n + x / (l.length + 1)) :: l.drop (x % (l.length + 1)).toNat) (n + x / (l.length + 1)) (x % (l.length + 1) + 1) (Puny.adapt (x - i) (l.length + 1) (decide (i = 0))) = Puny.dec s) := by
                  intro x e h
                  rw [h] at hsh
                  cases hq : Puny.deltaR (s.drop at_) 0 i 1 36 bias with
                  | none => rw [hq] at hsh; cases hsh
                  | some q =>
                    obtain ⟨x', e'⟩ := q
                    rw [hq] at hsh
                    simp only [Option.map_some, Option.some.injEq, Prod.mk.injEq] at hsh
                    obtain ⟨rfl, rfl⟩ := hsh
                    have hbn := hbn x e' (by omega) (by omega) (by omega) hq
                    rw [List.length_drop] at hbn
                    refine ⟨by omega, by omega, by omega, by omega, fun h => ?_, fun h1 h2 h3 => ?_⟩
                    · rw [← j10, Puny.decL]
                      split
                      · rfl
                      · rename_i hs1
                        first | rw [if_neg hln, hq] | rw [hq]
                        simp only
                        split
                        · rfl
                        · rename_i hs2
                          rw [if_pos (by rcases h with h | h | h; exact absurd h hs1; exact absurd h hs2; exact h)]
                    · rw [← j10, Puny.decL, if_neg (by omega), if_neg hln, hq]
                      simp only
                      rw [if_neg h2, if_neg (by rw [h3]; simp), List.drop_drop]
                      rw [show (e' + at_).toNat = at_ + e'.toNat by omega]
                clear hbn hsh
                repeat' (first | simp (disch := first | omega | assumption | decide) only [go_sem, hm, hz, g0, g6, g8, g9, g10, g11, hlen] | refine ifP_in (fun _ => ?_) (fun _ => ?_))
                refine rL_loop (σ := Nat × Int × Int × Int) (fun z e H' => H' = K ∧ e 0 = .str s ∧ e 6 = a ∧ e 9 = .i n ∧ e 11 = .i bias ∧ e 12 = .i i ∧ e 8 = .i z.1 ∧ e 10 = .i z.2.1 ∧ e 13 = .i z.2.2.1 ∧ e 14 = .i z.2.2.2 ∧ at_ ≤ z.1 ∧ z.1 ≤ s.length ∧ 0 ≤ z.2.1 ∧ z.2.1 ≤ 2147483647 ∧ 1 ≤ z.2.2.1 ∧ z.2.2.1 ≤ 2147483647 ∧ 0 ≤ z.2.2.2 ∧ z.2.2.2 ≤ 36 + 36 * z.1 ∧ Puny.deltaR (s.drop z.1) z.1 z.2.1 z.2.2.1 z.2.2.2 bias = D) (fun z => s.length - z.1) (at_, i, 1, 36) ?_ ?_
                · exact ⟨rfl, (by simp (disch := first | omega | assumption | decide) only [go_sem, *] <;> rfl), (by simp (disch := first | omega | assumption | decide) only [go_sem, *] <;> rfl), (by simp (disch := first | omega | assumption | decide) only [go_sem, *] <;> rfl), (by simp (disch := first | omega | assumption | decide) only [go_sem, *] <;> rfl), (by simp (disch := first | omega | assumption | decide) only [go_sem, *] <;> rfl), (by simp (disch := first | omega | assumption | decide) only [go_sem, *] <;> rfl), (by simp (disch := first | omega | assumption | decide) only [go_sem, *] <;> rfl), (by simp (disch := first | omega | assumption | decide) only [go_sem, *] <;> rfl), (by simp (disch := first | omega | assumption | decide) only [go_sem, *] <;> rfl), (by first | omega | (simp only; omega) | (simp; done) | (simp; omega)), (by first | omega | (simp only; omega) | (simp; done) | (simp; omega)), (by first | omega | (simp only; omega) | (simp; done) | (simp; omega)), (by first | omega | (simp only; omega) | (simp; done) | (simp; omega)), (by first | omega | (simp only; omega) | (simp; done) | (simp; omega)), (by first | omega | (simp only; omega) | (simp; done) | (simp; omega)), (by first | omega | (simp only; omega) | (simp; done) | (simp; omega)), (by first | omega | (simp only; omega) | (simp; done) | (simp; omega)), hD⟩
                · clear hD g0 g6 g8 g9 g10 g11
                  rintro ⟨at', i', w, k'⟩ e K ⟨rfl, g0, g6, g9, g11, g12, g8, g10, g13, g14, q1, q2, q3, q4, q5, q6, q7, q8, q9⟩
                  simp only at g0 g6 g9 g11 g12 g8 g10 g13 g14 q1 q2 q3 q4 q5 q6 q7 q8 q9
                  by_cases hat' : at' < s.length
                  · have hdrop : s.drop at' = ix s (at' : Int) :: s.drop (at' + 1) := by
                      rw [List.drop_eq_getElem_cons hat']
                      simp [ix, List.getD_eq_getElem?_getD, List.getElem?_eq_getElem hat']
                    rw [hdrop, Puny.deltaR] at q9
                    repeat' (first | simp (disch := first | omega | assumption | decide) only [go_sem, hm, hz, g0, g6, g9, g11, g12, g8, g10, g13, g14, hlen] | refine ifP_in (fun _ => ?_) (fun _ => ?_))
                    refine rF_use (val_r _) ?_
                    rintro _ K ⟨rfl, rfl⟩
                    generalize ix s (at' : Int) = c at *
                    have d1 := dgt_bnd c
                    generalize Puny.dgt c = d at *
                    have r1 : 0 ≤ (2147483647 - i') / w := Int.ediv_nonneg (by omega) (by omega)
                    have r2 : (2147483647 - i') / w ≤ 2147483647 - i' := Int.ediv_le_self _ (by omega)
                    have hdv : (if d = 36 then (-1 : Int) else d) < 0 ↔ d = 36 := by split <;> omega
                    by_cases hd36 : d = 36
                    · rw [if_pos (.inl hd36)] at q9
                      rw [if_pos hd36]
                      repeat' (first | simp (disch := first | omega | assumption | decide) only [go_sem, hm, hz, g0, g6, g9, g11, g12, g8, g10, g13, g14, hlen] | refine ifP_in (fun _ => ?_) (fun _ => ?_))
                      rw [hbad (hDn q9.symm)]
                      exact ⟨rfl, hp⟩
                    · rw [if_neg hd36]
                      repeat' (first | simp (disch := first | omega | assumption | decide) only [go_sem, hm, hz, g0, g6, g9, g11, g12, g8, g10, g13, g14, hlen] | refine ifP_in (fun _ => ?_) (fun _ => ?_))
                      · rw [if_pos (by omega)] at q9
                        rw [hbad (hDn q9.symm)]
                        exact ⟨rfl, hp⟩
                      · rename_i hgt
                        rw [if_neg (by omega)] at q9
                        refine rF_use (thr_r k' bias (by omega) (by omega)) ?_
                        rintro _ K ⟨rfl, rfl⟩
                        have t1 := Puny.thr_bnd k' bias
                        generalize Puny.thr k' bias = th at *
                        have r3 : d * w ≤ 2147483647 - i' := Int.le_trans (Int.mul_le_mul_of_nonneg_right (by omega : d ≤ (2147483647 - i') / w) (by omega)) (Int.ediv_mul_le _ (by omega))
                        have r4 : 0 ≤ d * w := Int.mul_nonneg (by omega) (by omega)
                        have r5 : 0 ≤ 2147483647 / (36 - th) := Int.ediv_nonneg (by omega) (by omega)
                        have r6 : 2147483647 / (36 - th) ≤ 2147483647 := Int.ediv_le_self _ (by omega)
                        by_cases hdt : d < th
                        · rw [if_pos hdt] at q9
                          obtain ⟨y1, y2, y3, y4, y5, y6⟩ := hDs _ _ q9.symm
                          have hx0 : i' + d * w < 1000000000000 := by omega
                          repeat' (first | simp (disch := first | omega | assumption | decide) only [go_sem, hm, hz, g0, g6, g9, g11, g12, g8, g10, g13, g14, hlen] | refine ifP_in (fun _ => ?_) (fun _ => ?_))
                          generalize i' + d * w = x at *
                          have hab := Puny.adapt_bnd (x - i) (l.length + 1) (decide (i = 0)) (by omega) (by omega) (by omega)
                          have hx1 : 0 ≤ x / ((l.length : Int) + 1) := Int.ediv_nonneg (by omega) (by omega)
                          have hx2 : x / ((l.length : Int) + 1) ≤ x := Int.ediv_le_self _ (by omega)
                          have hx3 : 0 ≤ x % ((l.length : Int) + 1) := Int.emod_nonneg _ (by omega)
                          have hx4 : x % ((l.length : Int) + 1) < l.length + 1 := Int.emod_lt_of_pos _ (by omega)
                          refine rF_use (adapt_r (x - i) (l.length + 1) (decide (i = 0)) (by omega) (by omega)) ?_
                          rintro _ K ⟨rfl, rfl⟩
                          generalize Puny.adapt (x - i) (l.length + 1) (decide (i = 0)) = bias' at *
                          repeat' (first | simp (disch := first | omega | assumption | decide) only [go_sem, hm, hz, g0, g6, g9, g11, g12, g8, g10, g13, g14, hlen] | refine ifP_in (fun _ => ?_) (fun _ => ?_))
                          rotate_left
                          · rw [hbad (y5 (.inr (.inl (by omega))))]
                            exact ⟨rfl, hp⟩
                          · refine rF_use (scalar_r _) ?_
                            rintro _ K ⟨rfl, rfl⟩
                            cases hsc : Puny.scalar (n + x / ((l.length : Int) + 1)) with
                            | false =>
                              repeat' (first | simp (disch := first | omega | assumption | decide) only [go_sem, hm, hz, g0, g6, g9, g11, g12, g8, g10, g13, g14, hlen] | refine ifP_in (fun _ => ?_) (fun _ => ?_))
                              rw [hbad (y5 (.inr (.inr hsc)))]
                              exact ⟨rfl, hp⟩
                            | true =>
                              have hsb := Puny.scalar_bnd hsc
                              by_cases hlb : 256 ≤ l.length
                              · have hnone : Puny.dec s = none := by
                                  by_cases hb2 : 256 < l.length
                                  · exact y5 (.inl hb2)
                                  · rw [← y6 (by omega) (by omega) hsc]
                                    obtain ⟨k, rfl⟩ : ∃ k'', k = k'' + 1 := ⟨k - 1, by omega⟩
                                    rw [Puny.decL, if_pos (by simp only [List.length_append, List.length_take, List.length_cons, List.length_drop]; omega)]
                                repeat' (first | simp (disch := first | omega | assumption | decide) only [go_sem, hm, hz, g0, g6, g9, g11, g12, g8, g10, g13, g14, hlen] | refine ifP_in (fun _ => ?_) (fun _ => ?_))
                                rw [hbad hnone]
                                exact ⟨rfl, hp⟩
                              · have y6 := y6 (by omega) (by omega) hsc
                                generalize hq : x % ((l.length : Int) + 1) = q at *
                                obtain ⟨m, rfl⟩ : ∃ m : Nat, q = m := ⟨q.toNat, by omega⟩
                                rw [Int.toNat_natCast] at y6
                                clear y5 q9 hDs hDn j10
                                have fin : ∀ a' K', RowOf iA H.length K' a' (l.take m ++ (n + x / ((l.length : Int) + 1)) :: l.drop m) → H <+: K' → True := fun _ _ _ _ => trivial
                                rcases hr with ⟨rfl, rfl⟩ | ⟨j, hj, rfl, hH, hx⟩
                                · obtain rfl : m = 0 := by simp at hx4; omega
                                  repeat' (first | simp (disch := first | omega | assumption | decide) only [go_sem, hm, hz, g0, g6, g9, g11, g12, g8, g10, g13, g14, hlen] | refine ifP_in (fun _ => ?_) (fun _ => ?_))
                                  refine bind_append (f := iA) (ys := [n + x / (((0 : Nat) : Int) + 1)]) (RowOf.nil) hp ?_ (by simp) ?_ ?_
                                  · rfl
                                  · simp
                                  intro a' K hr' hp'
                                  repeat' (first | simp (disch := first | omega | assumption | decide) only [go_sem, hm, hz, g0, g6, g9, g11, g12, g8, g10, g13, g14, hlen] | refine ifP_in (fun _ => ?_) (fun _ => ?_))
                                  refine ⟨(k, at' + 1, _, _, _, bias'), ⟨hp', (by first | omega | (simp only; omega) | (simp; done) | (simp; omega)), (by first | omega | (simp only; omega) | (simp; done) | (simp; omega)), rfl, rfl, rfl, hr', (by first | omega | (simp only; omega) | (simp; done) | (simp; omega)), (by first | omega | (simp only; omega) | (simp; done) | (simp; omega)), (by first | omega | (simp only; omega) | (simp; done) | (simp; omega)), (by first | omega | (simp only; omega) | (simp; done) | (simp; omega)), hab.1, hab.2, (by first | omega | (simp only; omega) | (simp; done) | (simp; omega)), (by first | omega | (simp only; omega) | (simp; done) | (simp; omega)), y6⟩, (by first | omega | (simp only; omega) | (simp; done) | (simp; omega))⟩
                                · by_cases hml : m < l.length
                                  · have hdl : (l.drop m).length ≤ 4000 := by simp; omega
                                    repeat' (first | simp (disch := first | omega | assumption | decide) only [go_sem, hm, hz, g0, g6, g9, g11, g12, g8, g10, g13, g14, hlen] | refine ifP_in (fun _ => ?_) (fun _ => ?_))
                                    rw [if_pos (.inl hml), view_mr (f := iA) hH (by omega) (by omega), List.take_of_length_le (by simp)]
                                    repeat' (first | simp (disch := first | omega | assumption | decide) only [go_sem, hm, hz, g0, g6, g9, g11, g12, g8, g10, g13, g14, hlen] | refine ifP_in (fun _ => ?_) (fun _ => ?_))
                                    refine bind_cut (f := iA) (ys := (n + x / ((l.length : Int) + 1)) :: l.drop m) hp hj hH hx (by omega) ?_ (by simp) ?_ ?_
                                    · rfl
                                    · simp; omega
                                    intro a' K hr' hp'
                                    repeat' (first | simp (disch := first | omega | assumption | decide) only [go_sem, hm, hz, g0, g6, g9, g11, g12, g8, g10, g13, g14, hlen] | refine ifP_in (fun _ => ?_) (fun _ => ?_))
                                    refine ⟨(k, at' + 1, _, _, _, bias'), ⟨hp', (by first | omega | (simp only; omega) | (simp; done) | (simp; omega)), (by first | omega | (simp only; omega) | (simp; done) | (simp; omega)), rfl, rfl, rfl, hr', (by first | omega | (simp only; omega) | (simp; done) | (simp; omega)), (by first | omega | (simp only; omega) | (simp; done) | (simp; omega)), (by first | omega | (simp only; omega) | (simp; done) | (simp; omega)), (by first | omega | (simp only; omega) | (simp; done) | (simp; omega)), hab.1, hab.2, (by simp only [List.length_append, List.length_take, List.length_cons, List.length_drop, List.length_nil]; omega), (by first | omega | (simp only; omega) | (simp; done) | (simp; omega)), y6⟩, (by first | omega | (simp only; omega) | (simp; done) | (simp; omega))⟩
                                  · obtain rfl : m = l.length := by omega
                                    repeat' (first | simp (disch := first | omega | assumption | decide) only [go_sem, hm, hz, g0, g6, g9, g11, g12, g8, g10, g13, g14, hlen] | refine ifP_in (fun _ => ?_) (fun _ => ?_))
                                    rw [if_neg (by omega)]
                                    repeat' (first | simp (disch := first | omega | assumption | decide) only [go_sem, hm, hz, g0, g6, g9, g11, g12, g8, g10, g13, g14, hlen] | refine ifP_in (fun _ => ?_) (fun _ => ?_))
                                    refine bind_cut (f := iA) (ys := [n + x / ((l.length : Int) + 1)]) hp hj hH hx (by omega) ?_ (by simp) ?_ ?_
                                    · rfl
                                    · simp; omega
                                    intro a' K hr' hp'
                                    repeat' (first | simp (disch := first | omega | assumption | decide) only [go_sem, hm, hz, g0, g6, g9, g11, g12, g8, g10, g13, g14, hlen] | refine ifP_in (fun _ => ?_) (fun _ => ?_))
                                    refine ⟨(k, at' + 1, _, _, _, bias'), ⟨hp', (by first | omega | (simp only; omega) | (simp; done) | (simp; omega)), (by first | omega | (simp only; omega) | (simp; done) | (simp; omega)), rfl, rfl, rfl, hr', (by first | omega | (simp only; omega) | (simp; done) | (simp; omega)), (by first | omega | (simp only; omega) | (simp; done) | (simp; omega)), (by first | omega | (simp only; omega) | (simp; done) | (simp; omega)), (by first | omega | (simp only; omega) | (simp; done) | (simp; omega)), hab.1, hab.2, (by simp only [List.length_append, List.length_take, List.length_cons, List.length_drop, List.length_nil]; omega), (by first | omega | (simp only; omega) | (simp; done) | (simp; omega)), (by rw [List.drop_length] at y6; exact y6)⟩, (by first | omega | (simp only; omega) | (simp; done) | (simp; omega))⟩
                        · rw [if_neg hdt] at q9
                          repeat' (first | simp (disch := first | omega | assumption | decide) only [go_sem, hm, hz, g0, g6, g9, g11, g12, g8, g10, g13, g14, hlen] | refine ifP_in (fun _ => ?_) (fun _ => ?_))
                          · rw [if_pos (by omega)] at q9
                            rw [hbad (hDn q9.symm)]
                            exact ⟨rfl, hp⟩
                          · rw [if_neg (by omega)] at q9
                            have r7 : w * (36 - th) ≤ 2147483647 := Int.le_trans (Int.mul_le_mul_of_nonneg_right (by omega : w ≤ 2147483647 / (36 - th)) (by omega)) (Int.ediv_mul_le _ (by omega))
                            have r8 : 1 * 1 ≤ w * (36 - th) := Int.mul_le_mul (by omega) (by omega) (by omega) (by omega)
                            repeat' (first | simp (disch := first | omega | assumption | decide) only [go_sem, hm, hz, g0, g6, g9, g11, g12, g8, g10, g13, g14, hlen] | refine ifP_in (fun _ => ?_) (fun _ => ?_))
                            refine ⟨(at' + 1, i' + d * w, w * (36 - th), k' + 36), ⟨rfl, rfl, rfl, rfl, (by first | omega | (simp only; omega) | (simp; done) | (simp; omega)), (by first | omega | (simp only; omega) | (simp; done) | (simp; omega)), (by first | omega | (simp only; omega) | (simp; done) | (simp; omega)), (by first | omega | (simp only; omega) | (simp; done) | (simp; omega)), (by first | omega | (simp only; omega) | (simp; done) | (simp; omega)), (by first | omega | (simp only; omega) | (simp; done) | (simp; omega)), (by first | omega | (simp only; omega) | (simp; done) | (simp; omega)), (by first | omega | (simp only; omega) | (simp; done) | (simp; omega)), ?_⟩, (by first | omega | (simp only; omega) | (simp; done) | (simp; omega))⟩
                            exact q9
                  · have hse : s.drop at' = [] := List.drop_of_length_le (by omega)
                    rw [hse, Puny.deltaR] at q9
                    repeat' (first | simp (disch := first | omega | assumption | decide) only [go_sem, hm, hz, g0, g6, g9, g11, g12, g8, g10, g13, g14, hlen] | refine ifP_in (fun _ => ?_) (fun _ => ?_))
                    rw [hbad (hDn q9.symm)]
                    exact ⟨rfl, hp⟩
              · have hse : s.drop at_ = [] := List.drop_of_length_le (by omega)
                rw [hse, Puny.decL] at j10
                repeat' (first | simp (disch := first | omega | assumption | decide) only [go_sem, hm, hz, g0, g6, g8, g9, g10, g11, hlen] | refine ifP_in (fun _ => ?_) (fun _ => ?_))
                · rw [if_pos (by omega)] at j10
                  rw [hbad j10.symm]
                  exact ⟨rfl, hp⟩
                · rw [if_neg (by omega), if_pos (by simp)] at j10
                  refine bind_freeze (f := iA) hr hp ?_
                  intro K hp
                  repeat' (first | simp (disch := first | omega | assumption | decide) only [go_sem, hm, hz, g0, g6, g8, g9, g10, g11, hlen] | refine ifP_in (fun _ => ?_) (fun _ => ?_))
                  rw [hgood l j10.symm]
                  exact ⟨rfl, hp⟩
          · obtain ⟨at0, hat0⟩ : ∃ at0 : Nat, at0 = 0 := ⟨_, rfl⟩
            have hdec : Puny.dec s = Puny.decL (s.length + 1) (s.drop at0) ((s.take i).map fun c => (c.toNat : Int)) 128 0 72 := by
              rw [hdec, if_neg (by omega), hat0]
              rw [show cut.toNat = i by omega]; rfl
            have hae : (0 : Int) = (at0 : Int) := by omega
            refine rL_loop (σ := Nat × Nat × List Int × Int × Int × Int) (fun z e H' => H <+: H' ∧ e 0 = .str s ∧ e 8 = .i z.2.1 ∧ z.2.1 ≤ s.length ∧ e 9 = .i z.2.2.2.1 ∧ e 10 = .i z.2.2.2.2.1 ∧ e 11 = .i z.2.2.2.2.2 ∧ RowOf iA H.length H' (e 6) z.2.2.1 ∧ 0 ≤ z.2.2.2.1 ∧ z.2.2.2.1 ≤ 1114111 ∧ 0 ≤ z.2.2.2.2.1 ∧ z.2.2.2.2.1 ≤ 2147483647 ∧ 0 ≤ z.2.2.2.2.2 ∧ z.2.2.2.2.2 ≤ 400 ∧ z.2.2.1.length ≤ 4000 ∧ s.length + 1 ≤ z.1 + z.2.1 ∧ Puny.decL z.1 (s.drop z.2.1) z.2.2.1 z.2.2.2.1 z.2.2.2.2.1 z.2.2.2.2.2 = Puny.dec s) (fun z => s.length - z.2.1) (s.length + 1, at0, (s.take i).map (fun c => (c.toNat : Int)), 128, 0, 72) ?_ ?_
            · refine ⟨hp, (by simp (disch := first | omega | assumption | decide) only [go_sem, *] <;> rfl), ?_, (by first | omega | (simp only; omega) | (simp; done) | (simp; omega)), (by simp (disch := first | omega | assumption | decide) only [go_sem, *] <;> rfl), (by simp (disch := first | omega | assumption | decide) only [go_sem, *] <;> rfl), (by simp (disch := first | omega | assumption | decide) only [go_sem, *] <;> rfl), ?_, (by first | omega | (simp only; omega) | (simp; done) | (simp; omega)), (by first | omega | (simp only; omega) | (simp; done) | (simp; omega)), (by first | omega | (simp only; omega) | (simp; done) | (simp; omega)), (by first | omega | (simp only; omega) | (simp; done) | (simp; omega)), (by first | omega | (simp only; omega) | (simp; done) | (simp; omega)), (by first | omega | (simp only; omega) | (simp; done) | (simp; omega)), (by first | omega | (simp only; omega) | (simp; done) | (simp; omega)), (by first | omega | (simp only; omega) | (simp; done) | (simp; omega)), ?_⟩
              · simp (disch := first | omega | assumption | decide) only [go_sem, *]
              · simp (disch := first | omega | assumption | decide) only [go_sem, g6]; exact hr
              · exact hdec.symm
            · clear g0 g4 g6 g7 hr hp hdec
              rintro ⟨k, at_, l, n, i, bias⟩ e K ⟨hp, g0, g8, j1, g9, g10, g11, hr, j2, j3, j4, j5, j6, j7, j8, j9, j10⟩
              simp only at g0 g8 j1 g9 g10 g11 hr j2 j3 j4 j5 j6 j7 j8 j9 j10
              generalize g6 : e 6 = a at *
              have hlen : ∀ el, lenD (some (.slice el)) a = some (.v (.int .i64 l.length)) := fun el => hr.len
              obtain ⟨k, rfl⟩ : ∃ k', k = k' + 1 := ⟨k - 1, by omega⟩
              by_cases hat : at_ < s.length
              · have hsh := Puny.deltaR_shift bias (s.drop at_) 0 at_ i 1 36
                rw [Int.zero_add] at hsh
                have hbn := Puny.deltaR_bnd bias (s.drop at_) 0 i 1 36
                have hln : ¬ (s.drop at_).length = 0 := by simp; omega
                generalize hD : Puny.deltaR (s.drop at_) at_ i 1 36 bias = D at *
                have hDn : D = none → Puny.dec s = none := by
                  intro h
                  rw [h] at hsh
                  have : Puny.deltaR (s.drop at_) 0 i 1 36 bias = none := by
                    cases hq : Puny.deltaR (s.drop at_) 0 i 1 36 bias with
                    | none => rfl
                    | some q => rw [hq] at hsh; cases hsh
                  rw [← j10, Puny.decL]
                  split
                  · rfl
                  · first | rw [if_neg hln, this] | rw [this]
                have hDs : ∀ x e, D = some (x, e) → at_ < e ∧ e ≤ s.length ∧ i ≤ x ∧ x ≤ 2147483647 ∧ (256 < l.length ∨ 2147483647 < n + x / (l.length + 1) ∨ Puny.scalar (n + x / (l.length + 1)) = false → Puny.dec s = none) ∧
                    (l.length ≤ 256 → ¬ 2147483647 < n + x / (l.length + 1) → Puny.scalar (n + x / (l.length + 1)) = true → Puny.decL k (s.drop e.toNat) (l.take (x % (l.length + 1)).toNat ++ (n + x / (l.length + 1)) :: l.drop (x % (l.length + 1)).toNat) (n + x / (l.length + 1)) (x % (l.length + 1) + 1) (Puny.adapt (x - i) (l.length + 1) (decide (i = 0))) = Puny.dec s) := by
                  intro x e h
                  rw [h] at hsh
                  cases hq : Puny.deltaR (s.drop at_) 0 i 1 36 bias with
                  | none => rw [hq] at hsh; cases hsh
                  | some q =>
                    obtain ⟨x', e'⟩ := q
                    rw [hq] at hsh
                    simp only [Option.map_some, Option.some.injEq, Prod.mk.injEq] at hsh
                    obtain ⟨rfl, rfl⟩ := hsh
                    have hbn := hbn x e' (by omega) (by omega) (by omega) hq
                    rw [List.length_drop] at hbn
                    refine ⟨by omega, by omega, by omega, by omega, fun h => ?_, fun h1 h2 h3 => ?_⟩
                    · rw [← j10, Puny.decL]
                      split
                      · rfl
                      · rename_i hs1
                        first | rw [if_neg hln, hq] | rw [hq]
                        simp only
                        split
                        · rfl
                        · rename_i hs2
                          rw [if_pos (by rcases h with h | h | h; exact absurd h hs1; exact absurd h hs2; exact h)]
                    · rw [← j10, Puny.decL, if_neg (by omega), if_neg hln, hq]
                      simp only
                      rw [if_neg h2, if_neg (by rw [h3]; simp), List.drop_drop]
                      rw [show (e' + at_).toNat = at_ + e'.toNat by omega]
                clear hbn hsh
                repeat' (first | simp (disch := first | omega | assumption | decide) only [go_sem, hm, hz, g0, g6, g8, g9, g10, g11, hlen] | refine ifP_in (fun _ => ?_) (fun _ => ?_))
                refine rL_loop (σ := Nat × Int × Int × Int) (fun z e H' => H' = K ∧ e 0 = .str s ∧ e 6 = a ∧ e 9 = .i n ∧ e 11 = .i bias ∧ e 12 = .i i ∧ e 8 = .i z.1 ∧ e 10 = .i z.2.1 ∧ e 13 = .i z.2.2.1 ∧ e 14 = .i z.2.2.2 ∧ at_ ≤ z.1 ∧ z.1 ≤ s.length ∧ 0 ≤ z.2.1 ∧ z.2.1 ≤ 2147483647 ∧ 1 ≤ z.2.2.1 ∧ z.2.2.1 ≤ 2147483647 ∧ 0 ≤ z.2.2.2 ∧ z.2.2.2 ≤ 36 + 36 * z.1 ∧ Puny.deltaR (s.drop z.1) z.1 z.2.1 z.2.2.1 z.2.2.2 bias = D) (fun z => s.length - z.1) (at_, i, 1, 36) ?_ ?_
                · exact ⟨rfl, (by simp (disch := first | omega | assumption | decide) only [go_sem, *] <;> rfl), (by simp (disch := first | omega | assumption | decide) only [go_sem, *] <;> rfl), (by simp (disch := first | omega | assumption | decide) only [go_sem, *] <;> rfl), (by simp (disch := first | omega | assumption | decide) only [go_sem, *] <;> rfl), (by simp (disch := first | omega | assumption | decide) only [go_sem, *] <;> rfl), (by simp (disch := first | omega | assumption | decide) only [go_sem, *] <;> rfl), (by simp (disch := first | omega | assumption | decide) only [go_sem, *] <;> rfl), (by simp (disch := first | omega | assumption | decide) only [go_sem, *] <;> rfl), (by simp (disch := first | omega | assumption | decide) only [go_sem, *] <;> rfl), (by first | omega | (simp only; omega) | (simp; done) | (simp; omega)), (by first | omega | (simp only; omega) | (simp; done) | (simp; omega)), (by first | omega | (simp only; omega) | (simp; done) | (simp; omega)), (by first | omega | (simp only; omega) | (simp; done) | (simp; omega)), (by first | omega | (simp only; omega) | (simp; done) | (simp; omega)), (by first | omega | (simp only; omega) | (simp; done) | (simp; omega)), (by first | omega | (simp only; omega) | (simp; done) | (simp; omega)), (by first | omega | (simp only; omega) | (simp; done) | (simp; omega)), hD⟩
                · clear hD g0 g6 g8 g9 g10 g11
                  rintro ⟨at', i', w, k'⟩ e K ⟨rfl, g0, g6, g9, g11, g12, g8, g10, g13, g14, q1, q2, q3, q4, q5, q6, q7, q8, q9⟩
                  simp only at g0 g6 g9 g11 g12 g8 g10 g13 g14 q1 q2 q3 q4 q5 q6 q7 q8 q9
                  by_cases hat' : at' < s.length
                  · have hdrop : s.drop at' = ix s (at' : Int) :: s.drop (at' + 1) := by
                      rw [List.drop_eq_getElem_cons hat']
                      simp [ix, List.getD_eq_getElem?_getD, List.getElem?_eq_getElem hat']
                    rw [hdrop, Puny.deltaR] at q9
                    repeat' (first | simp (disch := first | omega | assumption | decide) only [go_sem, hm, hz, g0, g6, g9, g11, g12, g8, g10, g13, g14, hlen] | refine ifP_in (fun _ => ?_) (fun _ => ?_))
                    refine rF_use (val_r _) ?_
                    rintro _ K ⟨rfl, rfl⟩
                    generalize ix s (at' : Int) = c at *
                    have d1 := dgt_bnd c
                    generalize Puny.dgt c = d at *
                    have r1 : 0 ≤ (2147483647 - i') / w := Int.ediv_nonneg (by omega) (by omega)
                    have r2 : (2147483647 - i') / w ≤ 2147483647 - i' := Int.ediv_le_self _ (by omega)
                    have hdv : (if d = 36 then (-1 : Int) else d) < 0 ↔ d = 36 := by split <;> omega
                    by_cases hd36 : d = 36
                    · rw [if_pos (.inl hd36)] at q9
                      rw [if_pos hd36]
                      repeat' (first | simp (disch := first | omega | assumption | decide) only [go_sem, hm, hz, g0, g6, g9, g11, g12, g8, g10, g13, g14, hlen] | refine ifP_in (fun _ => ?_) (fun _ => ?_))
                      rw [hbad (hDn q9.symm)]
                      exact ⟨rfl, hp⟩
                    · rw [if_neg hd36]
                      repeat' (first | simp (disch := first | omega | assumption | decide) only [go_sem, hm, hz, g0, g6, g9, g11, g12, g8, g10, g13, g14, hlen] | refine ifP_in (fun _ => ?_) (fun _ => ?_))
                      · rw [if_pos (by omega)] at q9
                        rw [hbad (hDn q9.symm)]
                        exact ⟨rfl, hp⟩
                      · rename_i hgt
                        rw [if_neg (by omega)] at q9
                        refine rF_use (thr_r k' bias (by omega) (by omega)) ?_
                        rintro _ K ⟨rfl, rfl⟩
                        have t1 := Puny.thr_bnd k' bias
                        generalize Puny.thr k' bias = th at *
                        have r3 : d * w ≤ 2147483647 - i' := Int.le_trans (Int.mul_le_mul_of_nonneg_right (by omega : d ≤ (2147483647 - i') / w) (by omega)) (Int.ediv_mul_le _ (by omega))
                        have r4 : 0 ≤ d * w := Int.mul_nonneg (by omega) (by omega)
                        have r5 : 0 ≤ 2147483647 / (36 - th) := Int.ediv_nonneg (by omega) (by omega)
                        have r6 : 2147483647 / (36 - th) ≤ 2147483647 := Int.ediv_le_self _ (by omega)
                        by_cases hdt : d < th
                        · rw [if_pos hdt] at q9
                          obtain ⟨y1, y2, y3, y4, y5, y6⟩ := hDs _ _ q9.symm
                          have hx0 : i' + d * w < 1000000000000 := by omega
                          repeat' (first | simp (disch := first | omega | assumption | decide) only [go_sem, hm, hz, g0, g6, g9, g11, g12, g8, g10, g13, g14, hlen] | refine ifP_in (fun _ => ?_) (fun _ => ?_))
                          generalize i' + d * w = x at *
                          have hab := Puny.adapt_bnd (x - i) (l.length + 1) (decide (i = 0)) (by omega) (by omega) (by omega)
                          have hx1 : 0 ≤ x / ((l.length : Int) + 1) := Int.ediv_nonneg (by omega) (by omega)
                          have hx2 : x / ((l.length : Int) + 1) ≤ x := Int.ediv_le_self _ (by omega)
                          have hx3 : 0 ≤ x % ((l.length : Int) + 1) := Int.emod_nonneg _ (by omega)
                          have hx4 : x % ((l.length : Int) + 1) < l.length + 1 := Int.emod_lt_of_pos _ (by omega)
                          refine rF_use (adapt_r (x - i) (l.length + 1) (decide (i = 0)) (by omega) (by omega)) ?_
                          rintro _ K ⟨rfl, rfl⟩
                          generalize Puny.adapt (x - i) (l.length + 1) (decide (i = 0)) = bias' at *
                          repeat' (first | simp (disch := first | omega | assumption | decide) only [go_sem, hm, hz, g0, g6, g9, g11, g12, g8, g10, g13, g14, hlen] | refine ifP_in (fun _ => ?_) (fun _ => ?_))
                          rotate_left
                          · rw [hbad (y5 (.inr (.inl (by omega))))]
                            exact ⟨rfl, hp⟩
                          · refine rF_use (scalar_r _) ?_
                            rintro _ K ⟨rfl, rfl⟩
                            cases hsc : Puny.scalar (n + x / ((l.length : Int) + 1)) with
                            | false =>
                              repeat' (first | simp (disch := first | omega | assumption | decide) only [go_sem, hm, hz, g0, g6, g9, g11, g12, g8, g10, g13, g14, hlen] | refine ifP_in (fun _ => ?_) (fun _ => ?_))
                              rw [hbad (y5 (.inr (.inr hsc)))]
                              exact ⟨rfl, hp⟩
                            | true =>
                              have hsb := Puny.scalar_bnd hsc
                              by_cases hlb : 256 ≤ l.length
                              · have hnone : Puny.dec s = none := by
                                  by_cases hb2 : 256 < l.length
                                  · exact y5 (.inl hb2)
                                  · rw [← y6 (by omega) (by omega) hsc]
                                    obtain ⟨k, rfl⟩ : ∃ k'', k = k'' + 1 := ⟨k - 1, by omega⟩
                                    rw [Puny.decL, if_pos (by simp only [List.length_append, List.length_take, List.length_cons, List.length_drop]; omega)]
                                repeat' (first | simp (disch := first | omega | assumption | decide) only [go_sem, hm, hz, g0, g6, g9, g11, g12, g8, g10, g13, g14, hlen] | refine ifP_in (fun _ => ?_) (fun _ => ?_))
                                rw [hbad hnone]
                                exact ⟨rfl, hp⟩
                              · have y6 := y6 (by omega) (by omega) hsc
                                generalize hq : x % ((l.length : Int) + 1) = q at *
                                obtain ⟨m, rfl⟩ : ∃ m : Nat, q = m := ⟨q.toNat, by omega⟩
                                rw [Int.toNat_natCast] at y6
                                clear y5 q9 hDs hDn j10
                                have fin : ∀ a' K', RowOf iA H.length K' a' (l.take m ++ (n + x / ((l.length : Int) + 1)) :: l.drop m) → H <+: K' → True := fun _ _ _ _ => trivial
                                rcases hr with ⟨rfl, rfl⟩ | ⟨j, hj, rfl, hH, hx⟩
                                · obtain rfl : m = 0 := by simp at hx4; omega
                                  repeat' (first | simp (disch := first | omega | assumption | decide) only [go_sem, hm, hz, g0, g6, g9, g11, g12, g8, g10, g13, g14, hlen] | refine ifP_in (fun _ => ?_) (fun _ => ?_))
                                  refine bind_append (f := iA) (ys := [n + x / (((0 : Nat) : Int) + 1)]) (RowOf.nil) hp ?_ (by simp) ?_ ?_
                                  · rfl
                                  · simp
                                  intro a' K hr' hp'
                                  repeat' (first | simp (disch := first | omega | assumption | decide) only [go_sem, hm, hz, g0, g6, g9, g11, g12, g8, g10, g13, g14, hlen] | refine ifP_in (fun _ => ?_) (fun _ => ?_))
                                  refine ⟨(k, at' + 1, _, _, _, bias'), ⟨hp', (by first | omega | (simp only; omega) | (simp; done) | (simp; omega)), (by first | omega | (simp only; omega) | (simp; done) | (simp; omega)), rfl, rfl, rfl, hr', (by first | omega | (simp only; omega) | (simp; done) | (simp; omega)), (by first | omega | (simp only; omega) | (simp; done) | (simp; omega)), (by first | omega | (simp only; omega) | (simp; done) | (simp; omega)), (by first | omega | (simp only; omega) | (simp; done) | (simp; omega)), hab.1, hab.2, (by first | omega | (simp only; omega) | (simp; done) | (simp; omega)), (by first | omega | (simp only; omega) | (simp; done) | (simp; omega)), y6⟩, (by first | omega | (simp only; omega) | (simp; done) | (simp; omega))⟩
                                · by_cases hml : m < l.length
                                  · have hdl : (l.drop m).length ≤ 4000 := by simp; omega
                                    repeat' (first | simp (disch := first | omega | assumption | decide) only [go_sem, hm, hz, g0, g6, g9, g11, g12, g8, g10, g13, g14, hlen] | refine ifP_in (fun _ => ?_) (fun _ => ?_))
                                    rw [if_pos (.inl hml), view_mr (f := iA) hH (by omega) (by omega), List.take_of_length_le (by simp)]
                                    repeat' (first | simp (disch := first | omega | assumption | decide) only [go_sem, hm, hz, g0, g6, g9, g11, g12, g8, g10, g13, g14, hlen] | refine ifP_in (fun _ => ?_) (fun _ => ?_))
                                    refine bind_cut (f := iA) (ys := (n + x / ((l.length : Int) + 1)) :: l.drop m) hp hj hH hx (by omega) ?_ (by simp) ?_ ?_
                                    · rfl
                                    · simp; omega
                                    intro a' K hr' hp'
                                    repeat' (first | simp (disch := first | omega | assumption | decide) only [go_sem, hm, hz, g0, g6, g9, g11, g12, g8, g10, g13, g14, hlen] | refine ifP_in (fun _ => ?_) (fun _ => ?_))
                                    refine ⟨(k, at' + 1, _, _, _, bias'), ⟨hp', (by first | omega | (simp only; omega) | (simp; done) | (simp; omega)), (by first | omega | (simp only; omega) | (simp; done) | (simp; omega)), rfl, rfl, rfl, hr', (by first | omega | (simp only; omega) | (simp; done) | (simp; omega)), (by first | omega | (simp only; omega) | (simp; done) | (simp; omega)), (by first | omega | (simp only; omega) | (simp; done) | (simp; omega)), (by first | omega | (simp only; omega) | (simp; done) | (simp; omega)), hab.1, hab.2, (by simp only [List.length_append, List.length_take, List.length_cons, List.length_drop, List.length_nil]; omega), (by first | omega | (simp only; omega) | (simp; done) | (simp; omega)), y6⟩, (by first | omega | (simp only; omega) | (simp; done) | (simp; omega))⟩
                                  · obtain rfl : m = l.length := by omega
                                    repeat' (first | simp (disch := first | omega | assumption | decide) only [go_sem, hm, hz, g0, g6, g9, g11, g12, g8, g10, g13, g14, hlen] | refine ifP_in (fun _ => ?_) (fun _ => ?_))
                                    rw [if_neg (by omega)]
                                    repeat' (first | simp (disch := first | omega | assumption | decide) only [go_sem, hm, hz, g0, g6, g9, g11, g12, g8, g10, g13, g14, hlen] | refine ifP_in (fun _ => ?_) (fun _ => ?_))
                                    refine bind_cut (f := iA) (ys := [n + x / ((l.length : Int) + 1)]) hp hj hH hx (by omega) ?_ (by simp) ?_ ?_
                                    · rfl
                                    · simp; omega
                                    intro a' K hr' hp'
                                    repeat' (first | simp (disch := first | omega | assumption | decide) only [go_sem, hm, hz, g0, g6, g9, g11, g12, g8, g10, g13, g14, hlen] | refine ifP_in (fun _ => ?_) (fun _ => ?_))
                                    refine ⟨(k, at' + 1, _, _, _, bias'), ⟨hp', (by first | omega | (simp only; omega) | (simp; done) | (simp; omega)), (by first | omega | (simp only; omega) | (simp; done) | (simp; omega)), rfl, rfl, rfl, hr', (by first | omega | (simp only; omega) | (simp; done) | (simp; omega)), (by first | omega | (simp only; omega) | (simp; done) | (simp; omega)), (by first | omega | (simp only; omega) | (simp; done) | (simp; omega)), (by first | omega | (simp only; omega) | (simp; done) | (simp; omega)), hab.1, hab.2, (by simp only [List.length_append, List.length_take, List.length_cons, List.length_drop, List.length_nil]; omega), (by first | omega | (simp only; omega) | (simp; done) | (simp; omega)), (by rw [List.drop_length] at y6; exact y6)⟩, (by first | omega | (simp only; omega) | (simp; done) | (simp; omega))⟩
                        · rw [if_neg hdt] at q9
                          repeat' (first | simp (disch := first | omega | assumption | decide) only [go_sem, hm, hz, g0, g6, g9, g11, g12, g8, g10, g13, g14, hlen] | refine ifP_in (fun _ => ?_) (fun _ => ?_))
                          · rw [if_pos (by omega)] at q9
                            rw [hbad (hDn q9.symm)]
                            exact ⟨rfl, hp⟩
                          · rw [if_neg (by omega)] at q9
                            have r7 : w * (36 - th) ≤ 2147483647 := Int.le_trans (Int.mul_le_mul_of_nonneg_right (by omega : w ≤ 2147483647 / (36 - th)) (by omega)) (Int.ediv_mul_le _ (by omega))
                            have r8 : 1 * 1 ≤ w * (36 - th) := Int.mul_le_mul (by omega) (by omega) (by omega) (by omega)
                            repeat' (first | simp (disch := first | omega | assumption | decide) only [go_sem, hm, hz, g0, g6, g9, g11, g12, g8, g10, g13, g14, hlen] | refine ifP_in (fun _ => ?_) (fun _ => ?_))
                            refine ⟨(at' + 1, i' + d * w, w * (36 - th), k' + 36), ⟨rfl, rfl, rfl, rfl, (by first | omega | (simp only; omega) | (simp; done) | (simp; omega)), (by first | omega | (simp only; omega) | (simp; done) | (simp; omega)), (by first | omega | (simp only; omega) | (simp; done) | (simp; omega)), (by first | omega | (simp only; omega) | (simp; done) | (simp; omega)), (by first | omega | (simp only; omega) | (simp; done) | (simp; omega)), (by first | omega | (simp only; omega) | (simp; done) | (simp; omega)), (by first | omega | (simp only; omega) | (simp; done) | (simp; omega)), (by first | omega | (simp only; omega) | (simp; done) | (simp; omega)), ?_⟩, (by first | omega | (simp only; omega) | (simp; done) | (simp; omega))⟩
                            exact q9
                  · have hse : s.drop at' = [] := List.drop_of_length_le (by omega)
                    rw [hse, Puny.deltaR] at q9
                    repeat' (first | simp (disch := first | omega | assumption | decide) only [go_sem, hm, hz, g0, g6, g9, g11, g12, g8, g10, g13, g14, hlen] | refine ifP_in (fun _ => ?_) (fun _ => ?_))
                    rw [hbad (hDn q9.symm)]
                    exact ⟨rfl, hp⟩
              · have hse : s.drop at_ = [] := List.drop_of_length_le (by omega)
                rw [hse, Puny.decL] at j10
                repeat' (first | simp (disch := first | omega | assumption | decide) only [go_sem, hm, hz, g0, g6, g8, g9, g10, g11, hlen] | refine ifP_in (fun _ => ?_) (fun _ => ?_))
                · rw [if_pos (by omega)] at j10
                  rw [hbad j10.symm]
                  exact ⟨rfl, hp⟩
                · rw [if_neg (by omega), if_pos (by simp)] at j10
                  refine bind_freeze (f := iA) hr hp ?_
                  intro K hp
                  repeat' (first | simp (disch := first | omega | assumption | decide) only [go_sem, hm, hz, g0, g6, g8, g9, g10, g11, hlen] | refine ifP_in (fun _ => ?_) (fun _ => ?_))
                  rw [hgood l j10.symm]
                  exact ⟨rfl, hp⟩
end Pu
end Go.Proofs
