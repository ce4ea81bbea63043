/- Walks through Decode. -/
import Derived.Test.YthdjjcjklamliaaPunyH
set_option linter.unusedVariables false
set_option linter.unusedSimpArgs false
namespace Go.Proofs
open Go.Lv
namespace Pu
variable {H : Heap}

abbrev iA : Int → AV := fun n => AV.v (.int .i64 n)

theorem insert_w {H0 : Heap} {a : AV} {xs : List Int} (hr : RowOf iA H0.length H a xs) (hp : H0 <+: H) (i x : Int) (h0 : 0 ≤ i) (h1 : i ≤ xs.length) (hl : xs.length < 1000000) :
    WF Try.prog cfg 24 [a, .i i, .sl ([x].map iA)] H (fun r H' => RowOf iA H0.length H' r (xs.take i.toNat ++ x :: xs.drop i.toNat) ∧ H0 <+: H') := by
  rcases hr with ⟨rfl, rfl⟩ | ⟨j, hj, rfl, hH, hx⟩
  · have : i = 0 := by simp at h1; omega
    subst this
    refine WF.ext (g := fun args H => insertA H args) rfl (r := .mr H.length 0 (0 + 1) 1 false) (H' := H ++ [[iA x]]) ?_ ?_
    · show insertA H [nilA, .i 0, .sl [iA x]] = _
      unfold insertA nilA
      simp only
      rw [if_pos]
      · rfl
      · refine ⟨by simp, by simp, ?_⟩
        intro b hb
        simp at hb; subst hb; exact ⟨rfl, rfl⟩
    · refine ⟨.inr ⟨H.length, pre_len hp, rfl, ?_, by simp⟩, pre_add hp _⟩
      rw [List.getElem?_append_right (by omega)]; simp
  · refine WF.ext (g := fun args H => insertA H args) rfl (r := .mr H.length 0 (xs.length + 1) 1 false) (H' := H.set j [] ++ [(xs.take i.toNat ++ x :: xs.drop i.toNat).map iA]) ?_ ?_
    · show insertA H [.mr j 0 xs.length 1 false, .i i, .sl [iA x]] = _
      unfold insertA
      simp only [hH, Option.bind_some]
      rw [if_pos]
      · have e : (xs.map iA).take xs.length = xs.map iA := List.take_of_length_le (by simp)
        rw [e]; simp [AV.cells]
      · refine ⟨h0, h1, by simp, by intro h; simp at h; rw [h] at hx; simp at hx, all_cell1 xs, by simp, by simp; omega, ?_⟩
        intro b hb
        simp at hb; subst hb; exact ⟨rfl, rfl⟩
    · refine ⟨.inr ⟨H.length, pre_len hp, ?_, ?_, by simp; omega⟩, pre_set hp hj _ _⟩
      · congr 1
        simp; omega
      · rw [get_end]

theorem dec_all {s : List UInt8} {i : Nat} (h : i < s.length) (h1 : 128 ≤ ((ix s (i : Int)).toNat : Int)) : Puny.dec s = none := by
  unfold Puny.dec
  rw [if_neg]
  intro ha
  rw [List.all_eq_true] at ha
  have hm : ix s (i : Int) ∈ s := by simp [ix, List.getD_eq_getElem?_getD, List.getElem?_eq_getElem h]
  have := ha _ hm
  simp at this
  omega
theorem bytes_take {s : List UInt8} {i : Nat} (h : i < s.length) : (s.take (i + 1)).map (fun c => (c.toNat : Int)) = (s.take i).map (fun c => (c.toNat : Int)) ++ [((ix s (i : Int)).toNat : Int)] := by
  rw [List.take_add_one, List.getElem?_eq_getElem h, List.map_append]
  simp [ix, List.getD_eq_getElem?_getD, List.getElem?_eq_getElem h]

theorem decode_w (s : List UInt8) (hs : s.length ≤ 140737488355328) : WF Try.prog cfg 11 [.str s] H (fun r H' => r = .tup [.sl ((Puny.decode s).1.map iA), .i (Puny.decode s).2] ∧ H <+: H') := by
  have hm : ∀ d, cfg.muF 11 d = (d == 5 || d == 43) := fun _ => rfl
  have hz : ∀ d, cfg.fzF 11 d = (d == 2) := fun _ => rfl
  refine rF_fn rfl rfl Try.func11 rfl ?_
  repeat' (first | simp (disch := first | omega | assumption | decide) only [go_sem, hm, hz] | refine ifP_in (fun _ => ?_) (fun _ => ?_))
  · rw [Puny.decode, if_pos (by omega)]
    exact ⟨rfl, List.prefix_refl _⟩
  have hs : s.length ≤ 4000 := by omega
  have hbad : Puny.dec s = none → Puny.decode s = ([], 4) := fun h => by rw [Puny.decode, if_neg (by omega), h]
  have hgood : ∀ l, Puny.dec s = some l → Puny.decode s = (l, 0) := fun l h => by rw [Puny.decode, if_neg (by omega), h]
  refine rL_loop (σ := Nat) (fun i e H' => H' = H ∧ e 0 = .str s ∧ e 20 = .i s.length ∧ e 21 = .i i ∧ i ≤ s.length ∧ ((s.take i).all fun c => decide (c.toNat < 128)) = true) (fun i => s.length - i) 0 ?_ ?_
  · exact ⟨rfl, (by simp (disch := first | omega | assumption | decide) only [go_sem, *] <;> rfl), (by simp (disch := first | omega | assumption | decide) only [go_sem, *] <;> rfl), (by simp (disch := first | omega | assumption | decide) only [go_sem, *] <;> rfl), by omega, rfl⟩
  · rintro i e H ⟨rfl, g0, g20, g21, gi, ga⟩
    by_cases hil : i < s.length
    · repeat' (first | simp (disch := first | omega | assumption | decide) only [go_sem, hm, hz, g0, g20, g21] | refine ifP_in (fun _ => ?_) (fun _ => ?_))
      · rw [hbad (dec_all hil (by assumption))]
        exact ⟨rfl, List.prefix_refl _⟩
      · rename_i hlt
        refine ⟨i + 1, ⟨by simp, by omega, ?_⟩, by omega⟩
        rw [List.take_add_one, List.all_append, ga, List.getElem?_eq_getElem hil]
        have : ix s (i : Int) = s[i] := by simp [ix, List.getD_eq_getElem?_getD, List.getElem?_eq_getElem hil]
        rw [this] at hlt
        simp; omega
    · obtain rfl : i = s.length := by omega
      rw [List.take_length] at ga
      repeat' (first | simp (disch := first | omega | assumption | decide) only [go_sem, hm, hz, g0, g20, g21] | refine ifP_in (fun _ => ?_) (fun _ => ?_))
      refine rF_use (last_w s 45 (by omega)) ?_
      rintro _ H ⟨rfl, rfl⟩
      have hcb := Puny.lastIx_bnd s 45 s.length
      have hdec : Puny.dec s = Puny.decL (s.length + 1) (if 0 < Puny.cutAt s then s.drop (Puny.cutAt s + 1).toNat else s) ((s.take (Puny.cutAt s).toNat).map fun c => (c.toNat : Int)) 128 0 72 := by
        unfold Puny.dec; rw [if_pos ga]
      unfold Puny.cutAt at hdec
      generalize Puny.lastIx s 45 s.length = cut at *
      have hpre : H <+: H := List.prefix_refl _
      repeat' (first | simp (disch := first | omega | assumption | decide) only [go_sem, hm, hz, g0, g20, g21] | refine ifP_in (fun _ => ?_) (fun _ => ?_))
      · rename_i hcut
        rw [if_pos hcut] at hdec
        refine rL_loop (σ := Nat) (fun i e H' => H <+: H' ∧ e 0 = .str s ∧ e 6 = .i cut ∧ e 33 = .i cut ∧ e 34 = .i i ∧ i ≤ cut ∧ RowOf iA H.length H' (e 5) ((s.take i).map fun c => (c.toNat : Int))) (fun i => cut.toNat - i) 0 ?_ ?_
        · exact ⟨hpre, (by simp (disch := first | omega | assumption | decide) only [go_sem, *] <;> rfl), (by simp (disch := first | omega | assumption | decide) only [go_sem, *] <;> rfl), (by simp (disch := first | omega | assumption | decide) only [go_sem, *] <;> rfl), (by simp (disch := first | omega | assumption | decide) only [go_sem, *] <;> rfl), by omega, .inl ⟨(by simp (disch := first | omega | assumption | decide) only [go_sem, *] <;> rfl), rfl⟩⟩
        · clear hpre g0 g20 g21
          rintro i e K ⟨hp, g0, g6, g33, g34, gi, hr⟩
          generalize g5 : e 5 = a at *
          by_cases hil : i < cut
          · have hlt : i < s.length := by omega
            repeat' (first | simp (disch := first | omega | assumption | decide) only [go_sem, hm, hz, g0, g5, g6, g33, g34] | refine ifP_in (fun _ => ?_) (fun _ => ?_))
            have hx := (ix s (i : Int)).toNat_lt
            refine bind_append (f := iA) (ys := [((ix s (i : Int)).toNat : Int)]) hr hp ?_ (by simp) ?_ ?_
            · rfl
            · simp; omega
            intro a' K hr' hp'
            repeat' (first | simp (disch := first | omega | assumption | decide) only [go_sem, hm, hz, g0, g5, g6, g33, g34] | refine ifP_in (fun _ => ?_) (fun _ => ?_))
            refine ⟨i + 1, ⟨hp', rfl, by omega, ?_⟩, by omega⟩
            rw [bytes_take hlt]
            exact hr'
          · obtain rfl : cut = (i : Int) := by omega
            repeat' (first | simp (disch := first | omega | assumption | decide) only [go_sem, hm, hz, g0, g5, g6, g33, g34] | refine ifP_in (fun _ => ?_) (fun _ => ?_))
            have hl0 : (s.take i).length ≤ s.length := by simp; omega
            have hr0 : (s.drop (i + 1 : Int).toNat).length ≤ s.length := by simp
            rw [show ((i : Int)).toNat = i from rfl] at hdec
            generalize s.drop (i + 1 : Int).toNat = r0 at *
            rw [← List.length_map (f := fun c : UInt8 => (c.toNat : Int))] at hl0
            generalize (s.take i).map (fun c => (c.toNat : Int)) = l0 at *
            refine rL_loop (σ := Nat × Nat × List Int × Int × Int × Int) (fun z e H' => H <+: H' ∧ e 0 = .str r0 ∧ e 11 = .i z.2.1 ∧ z.2.1 ≤ r0.length ∧ e 8 = .i z.2.2.2.1 ∧ e 9 = .i z.2.2.2.2.1 ∧ e 10 = .i z.2.2.2.2.2 ∧ RowOf iA H.length H' (e 5) z.2.2.1 ∧ 0 ≤ z.2.2.2.1 ∧ z.2.2.2.1 ≤ 1114111 ∧ 0 ≤ z.2.2.2.2.1 ∧ z.2.2.2.2.1 ≤ 2147483647 ∧ 0 ≤ z.2.2.2.2.2 ∧ z.2.2.2.2.2 ≤ 400 ∧ z.2.2.1.length ≤ 4000 ∧ r0.length + 1 ≤ z.1 + z.2.1 ∧ Puny.decL z.1 (r0.drop z.2.1) z.2.2.1 z.2.2.2.1 z.2.2.2.2.1 z.2.2.2.2.2 = Puny.dec s) (fun z => r0.length - z.2.1) (s.length + 1, 0, l0, 128, 0, 72) ?_ ?_
            · refine ⟨hp, (by simp (disch := first | omega | assumption | decide) only [go_sem, *] <;> rfl), (by simp (disch := first | omega | assumption | decide) only [go_sem, *] <;> rfl), (by first | omega | (simp only; omega) | (simp; done) | (simp; omega)), (by simp (disch := first | omega | assumption | decide) only [go_sem, *] <;> rfl), (by simp (disch := first | omega | assumption | decide) only [go_sem, *] <;> rfl), (by simp (disch := first | omega | assumption | decide) only [go_sem, *] <;> rfl), ?_, (by first | omega | (simp only; omega) | (simp; done) | (simp; omega)), (by first | omega | (simp only; omega) | (simp; done) | (simp; omega)), (by first | omega | (simp only; omega) | (simp; done) | (simp; omega)), (by first | omega | (simp only; omega) | (simp; done) | (simp; omega)), (by first | omega | (simp only; omega) | (simp; done) | (simp; omega)), (by first | omega | (simp only; omega) | (simp; done) | (simp; omega)), (by first | omega | (simp only; omega) | (simp; done) | (simp; omega)), (by first | omega | (simp only; omega) | (simp; done) | (simp; omega)), ?_⟩
              · simp (disch := first | omega | assumption | decide) only [go_sem, *]
              · simp only [List.drop_zero]; exact hdec.symm
            · clear g0 hr hp hdec
              rintro ⟨k, at_, l, n, i, bias⟩ e K ⟨hp, g0, g11, j1, g8, g9, g10, hr, j2, j3, j4, j5, j6, j7, j8, j9, j10⟩
              simp only at g0 g11 j1 g8 g9 g10 hr j2 j3 j4 j5 j6 j7 j8 j9 j10
              generalize g5 : e 5 = a at *
              have hlen : ∀ el, lenD (some (.slice el)) a = some (.v (.int .i64 l.length)) := fun el => hr.len
              obtain ⟨k, rfl⟩ : ∃ k', k = k' + 1 := ⟨k - 1, by omega⟩
              rw [Puny.decL] at j10
              repeat' (first | simp (disch := first | omega | assumption | decide) only [go_sem, hm, hz, g0, g5, g8, g9, g10, g11, hlen] | refine ifP_in (fun _ => ?_) (fun _ => ?_))
              · have hat : at_ < r0.length := by omega
                refine rF_use (delta_w r0 at_ i bias (by omega) (by omega) (by omega) (by omega)) ?_
                rintro _ K ⟨rfl, rfl⟩
                have hsh := Puny.deltaR_shift bias (r0.drop at_) 0 at_ i 1 36
                rw [Int.zero_add] at hsh
                rw [Int.toNat_natCast, hsh]
                have hbn := Puny.deltaR_bnd bias (r0.drop at_) 0 i 1 36
                rw [if_neg (by omega), if_neg (by simp; omega)] at j10
                cases hd : Puny.deltaR (r0.drop at_) 0 i 1 36 bias with
                | none =>
                  rw [hd] at j10
                  simp only [Option.map_none, deltaA]
                  repeat' (first | simp (disch := first | omega | assumption | decide) only [go_sem, hm, hz, g0, g5, g8, g9, g10, g11, hlen] | refine ifP_in (fun _ => ?_) (fun _ => ?_))
                  rw [hbad j10.symm]
                  exact ⟨rfl, hp⟩
                | some q =>
                  obtain ⟨x, e'⟩ := q
                  rw [hd] at j10
                  simp only at j10
                  have hbn := hbn x e' (by omega) (by omega) (by omega) hd
                  rw [List.length_drop] at hbn
                  simp only [Option.map_some, deltaA]
                  repeat' (first | simp (disch := first | omega | assumption | decide) only [go_sem, hm, hz, g0, g5, g8, g9, g10, g11, hlen] | refine ifP_in (fun _ => ?_) (fun _ => ?_))
                  refine rF_use (adapt_w (x - i) (l.length + 1) (decide (i = 0)) (by omega) (by omega)) ?_
                  rintro _ K ⟨rfl, rfl⟩
                  have hab := Puny.adapt_bnd (x - i) (l.length + 1) (decide (i = 0)) (by omega) (by omega) (by omega)
                  have hx1 : 0 ≤ x / ((l.length : Int) + 1) := Int.ediv_nonneg (by omega) (by omega)
                  have hx2 : x / ((l.length : Int) + 1) ≤ x := Int.ediv_le_self _ (by omega)
                  have hx3 : 0 ≤ x % ((l.length : Int) + 1) := Int.emod_nonneg _ (by omega)
                  have hx4 : x % ((l.length : Int) + 1) < l.length + 1 := Int.emod_lt_of_pos _ (by omega)
                  repeat' (first | simp (disch := first | omega | assumption | decide) only [go_sem, hm, hz, g0, g5, g8, g9, g10, g11, hlen] | refine ifP_in (fun _ => ?_) (fun _ => ?_))
                  · rw [if_pos (by omega)] at j10
                    rw [hbad j10.symm]
                    exact ⟨rfl, hp⟩
                  · rw [if_neg (by omega)] at j10
                    refine rF_use (scalar_w _) ?_
                    rintro _ K ⟨rfl, rfl⟩
                    cases hsc : Puny.scalar (n + x / ((l.length : Int) + 1)) with
                    | false =>
                      rw [if_pos hsc] at j10
                      repeat' (first | simp (disch := first | omega | assumption | decide) only [go_sem, hm, hz, g0, g5, g8, g9, g10, g11, hlen] | refine ifP_in (fun _ => ?_) (fun _ => ?_))
                      rw [hbad j10.symm]
                      exact ⟨rfl, hp⟩
                    | true =>
                      have hsb := Puny.scalar_bnd hsc
                      rw [if_neg (by rw [hsc]; simp)] at j10
                      repeat' (first | simp (disch := first | omega | assumption | decide) only [go_sem, hm, hz, g0, g5, g8, g9, g10, g11, hlen] | refine ifP_in (fun _ => ?_) (fun _ => ?_))
                      refine rF_use (insert_w hr hp (x % ((l.length : Int) + 1)) (n + x / ((l.length : Int) + 1)) (by omega) (by omega) (by omega)) ?_
                      rintro a' K' ⟨hr', hp'⟩
                      repeat' (first | simp (disch := first | omega | assumption | decide) only [go_sem, hm, hz, g0, g5, g8, g9, g10, g11, hlen] | refine ifP_in (fun _ => ?_) (fun _ => ?_))
                      refine ⟨(k, at_ + e'.toNat, _, _, _, _), ⟨hp', ?_, by simp only; omega, rfl, rfl, rfl, hr', (by first | omega | (simp only; omega) | (simp; done) | (simp; omega)), (by first | omega | (simp only; omega) | (simp; done) | (simp; omega)), (by first | omega | (simp only; omega) | (simp; done) | (simp; omega)), (by first | omega | (simp only; omega) | (simp; done) | (simp; omega)), hab.1, hab.2, ?_, (by first | omega | (simp only; omega) | (simp; done) | (simp; omega)), ?_⟩, by simp only; omega⟩
                      · simp only; congr 1; omega
                      · simp only [List.length_append, List.length_take, List.length_cons, List.length_drop]; omega
                      · simp only
                        rw [← List.drop_drop]
                        exact j10
              · rw [if_pos (by omega)] at j10
                rw [hbad j10.symm]
                exact ⟨rfl, hp⟩
              · rw [if_pos (by omega)] at j10
                rw [hbad j10.symm]
                exact ⟨rfl, hp⟩
              · rw [if_neg (by omega), if_pos (by simp; omega)] at j10
                refine bind_freeze (f := iA) hr hp ?_
                intro K hp
                repeat' (first | simp (disch := first | omega | assumption | decide) only [go_sem, hm, hz, g0, g5, g8, g9, g10, g11, hlen] | refine ifP_in (fun _ => ?_) (fun _ => ?_))
                rw [hgood l j10.symm]
                exact ⟨rfl, hp⟩
      · rename_i hcut
        rw [if_neg hcut, show cut.toNat = 0 by omega] at hdec
        have hr : RowOf iA H.length H nilA ([] : List Int) := RowOf.nil
        have hp := hpre
        have hdec : Puny.dec s = Puny.decL (s.length + 1) s [] 128 0 72 := hdec
        have hl0 : ([] : List Int).length ≤ s.length := by simp
        have hr0 : s.length ≤ s.length := by omega
        generalize ([] : List Int) = l0 at hr hdec hl0
        have hd2 : ∀ r0, r0 = s → True := fun _ _ => trivial
        refine rL_loop (σ := Nat × Nat × List Int × Int × Int × Int) (fun z e H' => H <+: H' ∧ e 0 = .str s ∧ e 11 = .i z.2.1 ∧ z.2.1 ≤ s.length ∧ e 8 = .i z.2.2.2.1 ∧ e 9 = .i z.2.2.2.2.1 ∧ e 10 = .i z.2.2.2.2.2 ∧ RowOf iA H.length H' (e 5) z.2.2.1 ∧ 0 ≤ z.2.2.2.1 ∧ z.2.2.2.1 ≤ 1114111 ∧ 0 ≤ z.2.2.2.2.1 ∧ z.2.2.2.2.1 ≤ 2147483647 ∧ 0 ≤ z.2.2.2.2.2 ∧ z.2.2.2.2.2 ≤ 400 ∧ z.2.2.1.length ≤ 4000 ∧ s.length + 1 ≤ z.1 + z.2.1 ∧ Puny.decL z.1 (s.drop z.2.1) z.2.2.1 z.2.2.2.1 z.2.2.2.2.1 z.2.2.2.2.2 = Puny.dec s) (fun z => s.length - z.2.1) (s.length + 1, 0, l0, 128, 0, 72) ?_ ?_
        · refine ⟨hp, (by simp (disch := first | omega | assumption | decide) only [go_sem, *] <;> rfl), (by simp (disch := first | omega | assumption | decide) only [go_sem, *] <;> rfl), (by first | omega | (simp only; omega) | (simp; done) | (simp; omega)), (by simp (disch := first | omega | assumption | decide) only [go_sem, *] <;> rfl), (by simp (disch := first | omega | assumption | decide) only [go_sem, *] <;> rfl), (by simp (disch := first | omega | assumption | decide) only [go_sem, *] <;> rfl), ?_, (by first | omega | (simp only; omega) | (simp; done) | (simp; omega)), (by first | omega | (simp only; omega) | (simp; done) | (simp; omega)), (by first | omega | (simp only; omega) | (simp; done) | (simp; omega)), (by first | omega | (simp only; omega) | (simp; done) | (simp; omega)), (by first | omega | (simp only; omega) | (simp; done) | (simp; omega)), (by first | omega | (simp only; omega) | (simp; done) | (simp; omega)), (by first | omega | (simp only; omega) | (simp; done) | (simp; omega)), (by first | omega | (simp only; omega) | (simp; done) | (simp; omega)), ?_⟩
          · simp (disch := first | omega | assumption | decide) only [go_sem, *]
          · simp only [List.drop_zero]; exact hdec.symm
        · clear g0 hr hp hdec
          rintro ⟨k, at_, l, n, i, bias⟩ e K ⟨hp, g0, g11, j1, g8, g9, g10, hr, j2, j3, j4, j5, j6, j7, j8, j9, j10⟩
          simp only at g0 g11 j1 g8 g9 g10 hr j2 j3 j4 j5 j6 j7 j8 j9 j10
          generalize g5 : e 5 = a at *
          have hlen : ∀ el, lenD (some (.slice el)) a = some (.v (.int .i64 l.length)) := fun el => hr.len
          obtain ⟨k, rfl⟩ : ∃ k', k = k' + 1 := ⟨k - 1, by omega⟩
          rw [Puny.decL] at j10
          repeat' (first | simp (disch := first | omega | assumption | decide) only [go_sem, hm, hz, g0, g5, g8, g9, g10, g11, hlen] | refine ifP_in (fun _ => ?_) (fun _ => ?_))
          · have hat : at_ < s.length := by omega
            refine rF_use (delta_w s at_ i bias (by omega) (by omega) (by omega) (by omega)) ?_
            rintro _ K ⟨rfl, rfl⟩
            have hsh := Puny.deltaR_shift bias (s.drop at_) 0 at_ i 1 36
            rw [Int.zero_add] at hsh
            rw [Int.toNat_natCast, hsh]
            have hbn := Puny.deltaR_bnd bias (s.drop at_) 0 i 1 36
            rw [if_neg (by omega), if_neg (by simp; omega)] at j10
            cases hd : Puny.deltaR (s.drop at_) 0 i 1 36 bias with
            | none =>
              rw [hd] at j10
              simp only [Option.map_none, deltaA]
              repeat' (first | simp (disch := first | omega | assumption | decide) only [go_sem, hm, hz, g0, g5, g8, g9, g10, g11, hlen] | refine ifP_in (fun _ => ?_) (fun _ => ?_))
              rw [hbad j10.symm]
              exact ⟨rfl, hp⟩
            | some q =>
              obtain ⟨x, e'⟩ := q
              rw [hd] at j10
              simp only at j10
              have hbn := hbn x e' (by omega) (by omega) (by omega) hd
              rw [List.length_drop] at hbn
              simp only [Option.map_some, deltaA]
              repeat' (first | simp (disch := first | omega | assumption | decide) only [go_sem, hm, hz, g0, g5, g8, g9, g10, g11, hlen] | refine ifP_in (fun _ => ?_) (fun _ => ?_))
              refine rF_use (adapt_w (x - i) (l.length + 1) (decide (i = 0)) (by omega) (by omega)) ?_
              rintro _ K ⟨rfl, rfl⟩
              have hab := Puny.adapt_bnd (x - i) (l.length + 1) (decide (i = 0)) (by omega) (by omega) (by omega)
              have hx1 : 0 ≤ x / ((l.length : Int) + 1) := Int.ediv_nonneg (by omega) (by omega)
              have hx2 : x / ((l.length : Int) + 1) ≤ x := Int.ediv_le_self _ (by omega)
              have hx3 : 0 ≤ x % ((l.length : Int) + 1) := Int.emod_nonneg _ (by omega)
              have hx4 : x % ((l.length : Int) + 1) < l.length + 1 := Int.emod_lt_of_pos _ (by omega)
              repeat' (first | simp (disch := first | omega | assumption | decide) only [go_sem, hm, hz, g0, g5, g8, g9, g10, g11, hlen] | refine ifP_in (fun _ => ?_) (fun _ => ?_))
              · rw [if_pos (by omega)] at j10
                rw [hbad j10.symm]
                exact ⟨rfl, hp⟩
              · rw [if_neg (by omega)] at j10
                refine rF_use (scalar_w _) ?_
                rintro _ K ⟨rfl, rfl⟩
                cases hsc : Puny.scalar (n + x / ((l.length : Int) + 1)) with
                | false =>
                  rw [if_pos hsc] at j10
                  repeat' (first | simp (disch := first | omega | assumption | decide) only [go_sem, hm, hz, g0, g5, g8, g9, g10, g11, hlen] | refine ifP_in (fun _ => ?_) (fun _ => ?_))
                  rw [hbad j10.symm]
                  exact ⟨rfl, hp⟩
                | true =>
                  have hsb := Puny.scalar_bnd hsc
                  rw [if_neg (by rw [hsc]; simp)] at j10
                  repeat' (first | simp (disch := first | omega | assumption | decide) only [go_sem, hm, hz, g0, g5, g8, g9, g10, g11, hlen] | refine ifP_in (fun _ => ?_) (fun _ => ?_))
                  refine rF_use (insert_w hr hp (x % ((l.length : Int) + 1)) (n + x / ((l.length : Int) + 1)) (by omega) (by omega) (by omega)) ?_
                  rintro a' K' ⟨hr', hp'⟩
                  repeat' (first | simp (disch := first | omega | assumption | decide) only [go_sem, hm, hz, g0, g5, g8, g9, g10, g11, hlen] | refine ifP_in (fun _ => ?_) (fun _ => ?_))
                  refine ⟨(k, at_ + e'.toNat, _, _, _, _), ⟨hp', ?_, by simp only; omega, rfl, rfl, rfl, hr', (by first | omega | (simp only; omega) | (simp; done) | (simp; omega)), (by first | omega | (simp only; omega) | (simp; done) | (simp; omega)), (by first | omega | (simp only; omega) | (simp; done) | (simp; omega)), (by first | omega | (simp only; omega) | (simp; done) | (simp; omega)), hab.1, hab.2, ?_, (by first | omega | (simp only; omega) | (simp; done) | (simp; omega)), ?_⟩, by simp only; omega⟩
                  · simp only; congr 1; omega
                  · simp only [List.length_append, List.length_take, List.length_cons, List.length_drop]; omega
                  · simp only
                    rw [← List.drop_drop]
                    exact j10
          · rw [if_pos (by omega)] at j10
            rw [hbad j10.symm]
            exact ⟨rfl, hp⟩
          · rw [if_pos (by omega)] at j10
            rw [hbad j10.symm]
            exact ⟨rfl, hp⟩
          · rw [if_neg (by omega), if_pos (by simp; omega)] at j10
            refine bind_freeze (f := iA) hr hp ?_
            intro K hp
            repeat' (first | simp (disch := first | omega | assumption | decide) only [go_sem, hm, hz, g0, g5, g8, g9, g10, g11, hlen] | refine ifP_in (fun _ => ?_) (fun _ => ?_))
            rw [hgood l j10.symm]
            exact ⟨rfl, hp⟩
end Pu
end Go.Proofs
