/- What was written comes back. -/
import Derived.Test.YtfkjkmjkfnephaaGreatDoorPunyAllax0
set_option linter.unusedVariables false
set_option linter.unusedSimpArgs false
namespace Go.Puny
theorem dgt_ltr {d : Int} (h0 : 0 ≤ d) (h1 : d < 36) : dgt (ltr d) = d := by
 unfold ltr
 split
 ·rename_i h
  have hn : (UInt8.ofNat (97 + d).toNat).toNat = (97 + d).toNat := by simp [UInt8.toNat_ofNat']; omega
  unfold dgt
  rw [hn, if_pos (by omega)]; omega
 ·rename_i h
  have hn : (UInt8.ofNat (22 + d).toNat).toNat = (22 + d).toNat := by simp [UInt8.toNat_ofNat']; omega
  unfold dgt
  rw [hn, if_neg (by omega), if_neg (by omega), if_pos (by omega)]; omega
theorem ltr_ok {d : Int} (h0 : 0 ≤ d) (h1 : d < 36) : (ltr d).toNat < 128 ∧ (97 ≤ (ltr d).toNat ∧ (ltr d).toNat ≤ 122 ∨ 48 ≤ (ltr d).toNat ∧ (ltr d).toNat ≤ 57) := by
 unfold ltr
 split
 ·have hn : (UInt8.ofNat (97 + d).toNat).toNat = (97 + d).toNat := by simp [UInt8.toNat_ofNat']; omega
  rw [hn]; omega
 ·have hn : (UInt8.ofNat (22 + d).toNat).toNat = (22 + d).toNat := by simp [UInt8.toNat_ofNat']; omega
  rw [hn]; omega
def lowOrDigit (c : UInt8) : Prop := 97 ≤ c.toNat ∧ c.toNat ≤ 122 ∨ 48 ≤ c.toNat ∧ c.toNat ≤ 57
theorem numL_ok (bias : Int) : ∀ (m : Nat) (q k : Int), 0 ≤ q → q < m → ∀ c ∈ numL q k bias, lowOrDigit c := by
 intro m
 induction m with
 | zero => intro q k h0 h; omega
 | succ m ih =>
  intro q k h0 h c hc
  have h1 := thr_bnd k bias
  rw [numL] at hc
  split at hc
  ·rename_i hq
   simp only [List.mem_singleton] at hc
   subst hc
   exact (ltr_ok h0 (by omega)).2
  ·rename_i hq
   have m1 := Int.emod_nonneg (q - thr k bias) (by omega : 36 - thr k bias ≠ 0)
   have m2 := Int.emod_lt_of_pos (q - thr k bias) (by omega : 0 < 36 - thr k bias)
   have h2 := div_lt_self' h1.1 h1.2 (show thr k bias ≤ q by omega)
   rcases List.mem_cons.1 hc with rfl | hc
   ·exact (ltr_ok (by omega) (by omega)).2
   ·exact ih _ _ h2.1 (by omega) c hc
theorem pow35 {i j : Nat} (h : i ≤ j) : (35 : Int) ^ i ≤ 35 ^ j := by
 have := Nat.pow_le_pow_right (n := 35) (by omega) h
 exact_mod_cast this
theorem delta_num (bias : Int) (B : Int) (hB : B ≤ 286400000) : ∀ (m : Nat) (q k i w a : Int) (rest : List UInt8), 0 ≤ q → q < m → 0 ≤ i → 1 ≤ w → q * w ≤ B → i + q * w ≤ 2147483647 → (thr k bias ≤ 4 → ∃ j : Nat, w = 35 ^ j) →
  deltaR (numL q k bias ++ rest) a i w k bias = some (i + q * w, a + (numL q k bias).length) := by
 intro m
 induction m with
 | zero => intro q k i w a rest h0 h; omega
 | succ m ih =>
  intro q k i w a rest h0 hm hi hw hq hiq h4
  have t1 := thr_bnd k bias
  have ht4 : thr k bias ≤ 4 ∨ 5 ≤ thr k bias := by omega
  have hnext : thr (k + 36) bias ≤ 4 → thr k bias = 1 := by unfold thr; omega
  rw [numL]
  generalize ht : thr k bias = t at *
  by_cases hqt : q < t
  ·rw [dif_pos hqt]
   simp only [List.cons_append, List.nil_append, deltaR, List.length_singleton]
   rw [dgt_ltr h0 (by omega), ht]
   have : q ≤ (2147483647 - i) / w := Int.le_ediv_of_mul_le (by omega) (by omega)
   rw [if_neg (by omega), if_pos hqt]
   rfl
  ·rw [dif_neg hqt]
   have m1 := Int.emod_nonneg (q - t) (by omega : 36 - t ≠ 0)
   have m2 := Int.emod_lt_of_pos (q - t) (by omega : 0 < 36 - t)
   have m3 := Int.emod_add_mul_ediv (q - t) (36 - t)
   have h2 := div_lt_self' t1.1 t1.2 (show t ≤ q by omega)
   generalize hr : (q - t) % (36 - t) = r at *
   generalize hq' : (q - t) / (36 - t) = q' at *
   simp only [List.cons_append, deltaR, List.length_cons]
   rw [dgt_ltr (by omega) (by omega), ht]
   have hdq : t + r ≤ q := by
    have : 0 ≤ (36 - t) * q' := Int.mul_nonneg (by omega) (by omega)
    omega
   have hdw : (t + r) * w ≤ q * w := Int.mul_le_mul_of_nonneg_right hdq (by omega)
   have hdw0 : 0 ≤ (t + r) * w := Int.mul_nonneg (by omega) (by omega)
   have h5 : t + r ≤ (2147483647 - i) / w := Int.le_ediv_of_mul_le (by omega) (by omega)
   rw [if_neg (by omega), if_neg (by omega)]
   have htw : t * w ≤ q * w := Int.mul_le_mul_of_nonneg_right (by omega) (by omega)
   have hwt : w * (36 - t) ≤ 2147483647 := by
    rcases ht4 with h | h
    ·obtain ⟨j, rfl⟩ := h4 h
     have hj : j ≤ 5 := by
      by_cases hj : j ≤ 5
      ·exact hj
      ·exfalso
       have : (35 : Int) ^ 6 ≤ 35 ^ j := pow35 (by omega)
       have h6 : (35 : Int) ^ 6 = 1838265625 := by decide
       have : 1 * (35 : Int) ^ j ≤ t * 35 ^ j := Int.mul_le_mul_of_nonneg_right (by omega) (by omega)
       omega
     have h7 : (35 : Int) ^ j ≤ 35 ^ 5 := pow35 hj
     have h8 : (35 : Int) ^ 5 = 52521875 := by decide
     have : (35 : Int) ^ j * (36 - t) ≤ 52521875 * 35 := Int.mul_le_mul (by omega) (by omega) (by omega) (by omega)
     omega
    ·have : 5 * w ≤ t * w := Int.mul_le_mul_of_nonneg_right h (by omega)
     have : w * (36 - t) ≤ w * 31 := Int.mul_le_mul_of_nonneg_left (by omega) (by omega)
     omega
   have h9 : w ≤ 2147483647 / (36 - t) := Int.le_ediv_of_mul_le (by omega) hwt
   rw [if_neg (by omega)]
   have hsum : (t + r) * w + q' * (w * (36 - t)) = q * w := by
    rw [show q' * (w * (36 - t)) = ((36 - t) * q') * w by rw [Int.mul_comm w, ← Int.mul_assoc, Int.mul_comm q'], ← Int.add_mul]
    congr 1; omega
   have hw1 : 1 * 1 ≤ w * (36 - t) := Int.mul_le_mul hw (by omega) (by omega) (by omega)
   have := ih q' (k + 36) (i + (t + r) * w) (w * (36 - t)) (a + 1) rest h2.1 (by omega) (by omega) (by omega) (by omega) (by omega) (fun h => by
    have ht1 := hnext h
    obtain ⟨j, hj⟩ := h4 (by omega)
    exact ⟨j + 1, by rw [hj, ht1, Int.pow_succ]; rfl⟩)
   rw [this]
   congr 2
   ·omega
   ·push_cast; omega
def le_ (m : Int) : Int → Bool := fun c => decide (c ≤ m)
def lt_ (m : Int) : Int → Bool := fun c => decide (c < m)
theorem pass_sim (m basic : Int) (hm0 : 0 ≤ m) (hsc : scalar m = true) : ∀ (l2 l1 : List Int) (b : List UInt8) (delta bias done nd i : Int),
  (l1 ++ l2).length ≤ 256 → done = (l1.filter (le_ m) ++ l2.filter (lt_ m)).length → 0 ≤ delta → delta + l2.length ≤ 286400000 → 0 ≤ bias → bias ≤ 400 → 0 ≤ i → i ≤ done → basic ≤ done → (i = 0 ↔ done = basic) →
  nd * (done + 1) + i + delta = m * (done + 1) + (l1.filter (le_ m)).length →
  let r := l2.foldl (eStep m basic) (b, delta, bias, done)
  ∃ (T : List UInt8) (cnt : Nat) (nd' i' : Int), r.1 = b ++ T ∧ cnt ≤ T.length ∧ (∀ c ∈ T, lowOrDigit c) ∧
   (∀ (K : Nat) (rest : List UInt8), decL (K + cnt) (T ++ rest) (l1.filter (le_ m) ++ l2.filter (lt_ m)) nd i bias = decL K rest ((l1 ++ l2).filter (le_ m)) nd' i' r.2.2.1) ∧
   r.2.2.2 = ((l1 ++ l2).filter (le_ m)).length ∧ 0 ≤ i' ∧ i' ≤ r.2.2.2 ∧ basic ≤ r.2.2.2 ∧ (i' = 0 ↔ r.2.2.2 = basic) ∧ nd' * (r.2.2.2 + 1) + i' + r.2.1 = m * (r.2.2.2 + 1) + r.2.2.2 := by
 intro l2
 induction l2 with
 | nil =>
  intro l1 b delta bias done nd i hl hd h0 hB hb0 hb1 hi0 hi1 hba hib heq
  simp only [List.filter_nil, List.append_nil, List.foldl_nil] at hd ⊢
  exact ⟨[], 0, nd, i, by simp, by simp, by simp, fun K rest => rfl, hd, hi0, hi1, hba, hib, by rw [heq, ← hd]⟩
 | cons c l2 ih =>
  intro l1 b delta bias done nd i hl hd h0 hB hb0 hb1 hi0 hi1 hba hib heq
  simp only [List.foldl_cons]
  simp only [List.length_cons] at hB
  have hl' : ((l1 ++ [c]) ++ l2).length ≤ 256 := by simpa using hl
  have happ : (l1 ++ [c]) ++ l2 = l1 ++ c :: l2 := by simp
  by_cases hc : c < m
  ·have e1 : (l1 ++ [c]).filter (le_ m) = l1.filter (le_ m) ++ [c] := by
    rw [List.filter_append]; simp [le_, show c ≤ m by omega]
   have e2 : (c :: l2).filter (lt_ m) = c :: l2.filter (lt_ m) := by simp [lt_, hc]
   have hstep : eStep m basic (b, delta, bias, done) c = (b, delta + 1, bias, done) := by simp [eStep, hc]
   rw [hstep]
   have := ih (l1 ++ [c]) b (delta + 1) bias done nd i hl' (by rw [hd, e1, e2]; simp) (by omega) (by omega) hb0 hb1 hi0 hi1 hba hib (by rw [e1, List.length_append]; simp only [List.length_singleton]; push_cast; omega)
   rw [e1, happ] at this
   rw [e2]
   simpa using this
  ·by_cases he : c = m
   ·subst he
    have e1 : (l1 ++ [c]).filter (le_ c) = l1.filter (le_ c) ++ [c] := by
     rw [List.filter_append]; simp [le_]
    have e2 : (c :: l2).filter (lt_ c) = l2.filter (lt_ c) := by simp [lt_]
    have hstep : eStep c basic (b, delta, bias, done) c = (b ++ numL delta 36 bias, 0, adapt delta (done + 1) (decide (done = basic)), done + 1) := by simp [eStep]
    rw [hstep]
    rw [e2] at hd ⊢
    have hlen2 : (l2.filter (lt_ c)).length ≤ l2.length := List.length_filter_le _ _
    have hlen1 : (l1.filter (le_ c)).length ≤ l1.length := List.length_filter_le _ _
    rw [List.length_append] at hd
    simp only [List.length_append, List.length_cons] at hl
    have hab := adapt_bnd delta (done + 1) (decide (done = basic)) h0 (by omega) (by omega)
    have hnl := numL_len 9 delta 36 bias h0 (by omega)
    have hnok := numL_ok bias (delta.toNat + 1) delta 36 h0 (by omega)
    have := ih (l1 ++ [c]) (b ++ numL delta 36 bias) 0 (adapt delta (done + 1) (decide (done = basic))) (done + 1) c ((l1.filter (le_ c)).length + 1) hl' (by rw [e1]; simp only [List.length_append, List.length_singleton]; push_cast; omega) (by omega) (by omega) hab.1 hab.2 (by omega) (by omega) (by omega)
     ⟨fun h => by omega, fun h => by omega⟩ (by rw [e1, List.length_append]; simp only [List.length_singleton]; push_cast; omega)
    simp only at this
    obtain ⟨T, cnt, nd', i', t1, t2, t3, t4, t5, t6, t7, t8, t9, t10⟩ := this
    rw [happ] at t4 t5
    refine ⟨numL delta 36 bias ++ T, cnt + 1, nd', i', by rw [t1, List.append_assoc], by rw [List.length_append]; omega, ?_, ?_, t5, t6, t7, t8, t9, t10⟩
    ·intro d hd
     rcases List.mem_append.1 hd with h | h
     ·exact hnok d h
     ·exact t3 d h
    ·intro K rest
     rw [← t4 K rest, ← Nat.add_assoc, decL]
     have hL : (l1.filter (le_ c) ++ l2.filter (lt_ c)).length = (l1.filter (le_ c)).length + (l2.filter (lt_ c)).length := List.length_append
     rw [if_neg (by rw [hL]; omega), if_neg (by simp only [List.length_append]; omega), List.append_assoc]
     have hdn := delta_num bias 286400000 (by omega) (delta.toNat + 1) delta 36 i 1 0 (T ++ rest) h0 (by omega) hi0 (by omega) (by omega) (by omega) (fun _ => ⟨0, rfl⟩)
     rw [hdn]
     simp only
     have hLd : (((l1.filter (le_ c) ++ l2.filter (lt_ c)).length : Nat) : Int) = done := by rw [hL, hd]
     rw [hLd, Int.mul_one]
     have hx : i + delta = (l1.filter (le_ c)).length + (c - nd) * (done + 1) := by rw [Int.sub_mul]; omega
     have hp1 : ((l1.filter (le_ c)).length : Int) < done + 1 := by omega
     have hdiv : (i + delta) / (done + 1) = c - nd := by
      rw [hx, Int.add_mul_ediv_right _ _ (by omega), Int.ediv_eq_zero_of_lt (by omega) hp1]; omega
     have hmod : (i + delta) % (done + 1) = (l1.filter (le_ c)).length := by
      rw [hx, Int.add_mul_emod_self_right, Int.emod_eq_of_lt (by omega) hp1]
     have hcs := scalar_bnd hsc
     rw [hdiv, hmod, show nd + (c - nd) = c by omega, if_neg (by omega), if_neg (by simp [hsc])]
     rw [Int.toNat_natCast, List.take_left, List.drop_left]
     rw [show (0 + ((numL delta 36 bias).length : Int)).toNat = (numL delta 36 bias).length by omega, List.drop_left]
     rw [show i + delta - i = delta by omega, e1]
     have hdec : decide (i = 0) = decide (done = basic) := decide_eq_decide.2 hib
     rw [hdec]
     simp
   ·have e1 : (l1 ++ [c]).filter (le_ m) = l1.filter (le_ m) := by
     rw [List.filter_append]; simp [le_, show ¬ c ≤ m by omega]
    have e2 : (c :: l2).filter (lt_ m) = l2.filter (lt_ m) := by simp [lt_, hc]
    have hstep : eStep m basic (b, delta, bias, done) c = (b, delta, bias, done) := by simp [eStep, hc, he]
    rw [hstep]
    have := ih (l1 ++ [c]) b delta bias done nd i hl' (by rw [hd, e1, e2]) (by omega) (by omega) hb0 hb1 hi0 hi1 hba hib (by rw [e1]; omega)
    rw [e1, happ] at this
    rw [e2]
    exact this
theorem loop_sim (l : List Int) (basic : Int) (hall : ∀ c ∈ l, scalar c = true) (hlen : l.length ≤ 256) : ∀ (k : Nat) (n : Int) (b : List UInt8) (delta bias done nd i : Int),
  128 ≤ n → n ≤ 1114112 → done = (l.filter (lt_ n)).length → 0 ≤ delta → delta ≤ 257 → 0 ≤ bias → bias ≤ 400 → 0 ≤ i → i ≤ done → basic ≤ done → (i = 0 ↔ done = basic) → nd * (done + 1) + i + delta = n * (done + 1) → (l.length : Int) ≤ k + done → (b.length : Int) ≤ 257 + 11 * done →
  ∃ T : List UInt8, eLoop l basic k n (b, delta, bias, done) = b ++ T ∧ (∀ c ∈ T, lowOrDigit c) ∧ (b ++ T).length ≤ 3073 ∧ ∀ K, T.length + 1 ≤ K → decL K T (l.filter (lt_ n)) nd i bias = some l := by
 intro k
 induction k with
 | zero =>
  intro n b delta bias done nd i h1 h2 hd hd0 hd1 hb0 hb1 hi0 hi1 hba hib heq hk hbl
  have hfl : (l.filter (lt_ n)).length ≤ l.length := List.length_filter_le _ _
  have hall' : l.filter (lt_ n) = l := List.Sublist.eq_of_length (List.filter_sublist (l := l)) (by omega)
  refine ⟨[], by simp [eLoop], by simp, by simp; omega, fun K hK => ?_⟩
  obtain ⟨K, rfl⟩ : ∃ K', K = K' + 1 := ⟨K - 1, by omega⟩
  rw [hall', decL, if_neg (by omega), if_pos (by simp)]
 | succ k ih =>
  intro n b delta bias done nd i h1 h2 hd hd0 hd1 hb0 hb1 hi0 hi1 hba hib heq hk hbl
  have hfl : (l.filter (lt_ n)).length ≤ l.length := List.length_filter_le _ _
  by_cases hlt : done < l.length
  ·have hcp : ∀ x : Int, (l.countP fun c => decide (c < x)) = (l.filter (lt_ x)).length := fun x => List.countP_eq_length_filter
   have hall2 : ∀ c ∈ l, c ≤ 1114111 := fun c hc => (scalar_bnd (hall c hc)).2
   have hex := count_lt (l := l) (n := n) (by rw [hcp]; omega)
   have hnx := nxt_spec hex hall2
   have hsp := countP_split l n (nxt l n) hnx.2.1 hnx.2.2.2
   have hpos : 0 < l.countP fun c => decide (c = nxt l n) := List.countP_pos_iff.2 ⟨_, hnx.1, by simp⟩
   have hscm := hall _ hnx.1
   have hfm : l.filter (lt_ n) = l.filter (lt_ (nxt l n)) := by
    apply List.filter_congr
    intro c hc
    have := hnx.2.2.2 c hc
    simp only [lt_, decide_eq_decide]
    omega
   rw [eLoop]
   simp only
   rw [if_pos hlt]
   unfold eRound
   simp only
   generalize nxt l n = m at *
   have hm1 : (m - n) * (done + 1) ≤ 1114112 * 257 := Int.mul_le_mul (by omega) (by omega) (by omega) (by omega)
   have hm2 : 0 ≤ (m - n) * (done + 1) := Int.mul_nonneg (by omega) (by omega)
   have hpb := pass_bnd m basic (1114112 * 257 + 1000) (by omega) l (b, delta + (m - n) * (done + 1), bias, done) (by simp only; omega) (by simp only; omega) hb0 hb1 (by simp only; omega) hbl
   have hps := pass_sim m basic (by omega) hscm l [] b (delta + (m - n) * (done + 1)) bias done nd i (by simpa using hlen) (by simp only [List.filter_nil, List.nil_append]; rw [← hfm]; exact hd) (by omega) (by omega) hb0 hb1 hi0 hi1 hba hib
    (by simp only [List.filter_nil, List.length_nil]; rw [Int.sub_mul]; omega)
   simp only [List.filter_nil, List.nil_append] at hps hpb
   generalize List.foldl (eStep m basic) (b, delta + (m - n) * (done + 1), bias, done) l = r at *
   obtain ⟨rb, rd, rbi, rdo⟩ := r
   simp only at hps hpb ⊢
   obtain ⟨T, cnt, nd', i', t1, t2, t3, t4, t5, t6, t7, t8, t9, t10⟩ := hps
   obtain ⟨p1, p2, p3, p4, p5, p6, p7⟩ := hpb
   have hle : l.filter (le_ m) = l.filter (lt_ (m + 1)) := by
    apply List.filter_congr
    intro c hc
    simp only [lt_, le_, decide_eq_decide]
    omega
   have p7 := p7 hpos
   obtain ⟨T2, u1, u2, u3, u4⟩ := ih (m + 1) rb (rd + 1) rbi rdo nd' i' (by omega) (by omega) (by rw [t5, hle]) (by omega) (by omega) p3 p4 t6 t7 t8 t9 (by rw [Int.add_mul]; omega) (by omega) p6
   refine ⟨T ++ T2, by rw [u1, t1, List.append_assoc], ?_, by rw [← List.append_assoc, ← t1]; exact u3, fun K hK => ?_⟩
   ·intro c hc
    rcases List.mem_append.1 hc with h | h
    ·exact t3 c h
    ·exact u2 c h
   ·rw [List.length_append] at hK
    obtain ⟨K', rfl⟩ : ∃ K', K = K' + cnt := ⟨K - cnt, by omega⟩
    rw [hfm, t4, hle]
    exact u4 K' (by omega)
  ·have hall' : l.filter (lt_ n) = l := List.Sublist.eq_of_length (List.filter_sublist (l := l)) (by omega)
   refine ⟨[], by rw [eLoop]; simp only; rw [if_neg hlt]; simp, by simp, by simp; omega, fun K hK => ?_⟩
   obtain ⟨K, rfl⟩ : ∃ K', K = K' + 1 := ⟨K - 1, by omega⟩
   rw [hall', decL, if_neg (by omega), if_pos (by simp)]
theorem deltaR_congr (bias : Int) : ∀ (r r' : List UInt8), r.map dgt = r'.map dgt → ∀ (a i w k : Int), deltaR r a i w k bias = deltaR r' a i w k bias := by
 intro r
 induction r with
 | nil => intro r' h; cases r' with
  | nil => intros; rfl
  | cons c r' => simp at h
 | cons c r ih =>
  intro r' h
  cases r' with
  | nil => simp at h
  | cons c' r' =>
   simp only [List.map_cons, List.cons.injEq] at h
   intro a i w k
   simp only [deltaR]
   rw [h.1, ih r' h.2]
theorem decL_congr : ∀ (k : Nat) (r r' : List UInt8) (l : List Int) (n i bias : Int), r.map dgt = r'.map dgt → decL k r l n i bias = decL k r' l n i bias := by
 intro k
 induction k with
 | zero => intros; rfl
 | succ k ih =>
  intro r r' l n i bias h
  have hlen : r.length = r'.length := by
   have := congrArg List.length h
   simpa using this
  simp only [decL]
  rw [deltaR_congr bias r r' h, hlen]
  split
  ·rfl
  ·split
   ·rfl
   ·split
    ·rfl
    ·rename_i x e _
     have : (r.drop e.toNat).map dgt = (r'.drop e.toNat).map dgt := by rw [List.map_drop, List.map_drop, h]
     split
     ·rfl
     ·split
      ·rfl
      ·exact ih _ _ _ _ _ _ this
theorem last_none (p T : List UInt8) (h : ∀ c ∈ T, c ≠ 45) : ∀ j, j ≤ T.length → lastIx (p ++ T) 45 (p.length + j) = lastIx (p ++ T) 45 p.length := by
 intro j
 induction j with
 | zero => intro _; rfl
 | succ j ih =>
  intro hj
  rw [← Nat.add_assoc, lastIx, if_neg, ih (by omega)]
  rw [List.getD_eq_getElem?_getD, List.getElem?_append_right (by omega), show p.length + j - p.length = j by omega, List.getElem?_eq_getElem (by omega)]
  exact h _ (List.getElem_mem _)
theorem cut_dash (q T : List UInt8) (h : ∀ c ∈ T, c ≠ 45) : cutAt ((q ++ [45]) ++ T) = q.length := by
 unfold cutAt
 rw [List.length_append, last_none (q ++ [45]) T h T.length (Nat.le_refl _), List.length_append]
 show lastIx _ 45 (q.length + 1) = _
 rw [lastIx, if_pos]
 simp [List.getD_eq_getElem?_getD]
theorem cut_none (T : List UInt8) (h : ∀ c ∈ T, c ≠ 45) : cutAt T = -1 := by
 unfold cutAt
 have := last_none [] T h T.length (Nat.le_refl _)
 simp only [List.nil_append, List.length_nil, Nat.zero_add] at this
 rw [this]; rfl
theorem encode_ok {l : List Int} (h : (encode l).2 = 0) : l.length ≤ 256 ∧ l.all scalar = true ∧ (encode l).1 = eLoop l (plain l).length l.length 128 (dash (plain l), 0, 72, (plain l).length) := by
 unfold encode at *
 split at h
 ·simp at h
 ·rename_i hl
  rw [if_neg hl]
  unfold enc at *
  by_cases ha : l.all scalar = true
  ·rw [if_pos ha]; exact ⟨by omega, ha, rfl⟩
  ·rw [if_neg ha] at h; simp at h
theorem plain_ints {l : List Int} (ha : l.all scalar = true) : (plain l).map (fun c => (c.toNat : Int)) = l.filter (lt_ 128) := by
 unfold plain
 rw [List.map_map]
 have : ∀ c ∈ l.filter (fun c => decide (c < 128)), ((fun c : UInt8 => (c.toNat : Int)) ∘ fun c : Int => UInt8.ofNat c.toNat) c = c := by
  intro c hc
  rw [List.mem_filter] at hc
  have h1 := scalar_bnd (List.all_eq_true.1 ha c hc.1)
  have h2 : c < 128 := by simpa using hc.2
  simp only [Function.comp]
  simp [UInt8.toNat_ofNat']
  omega
 rw [List.map_congr_left this, List.map_id']
 rfl
theorem plain_ok {l : List Int} (ha : l.all scalar = true) : ∀ c ∈ plain l, c.toNat < 128 := by
 intro c hc
 unfold plain at hc
 obtain ⟨d, hd, rfl⟩ := List.mem_map.1 hc
 rw [List.mem_filter] at hd
 have h1 := scalar_bnd (List.all_eq_true.1 ha d hd.1)
 have h2 : d < 128 := by simpa using hd.2
 simp [UInt8.toNat_ofNat']
 omega
theorem round {l : List Int} (h : (encode l).2 = 0) : ∃ T : List UInt8, (encode l).1 = dash (plain l) ++ T ∧ (∀ c ∈ T, lowOrDigit c) ∧ ((encode l).1.length ≤ 3073) ∧
  ∀ T' : List UInt8, T'.map dgt = T.map dgt → (∀ c ∈ T', c ≠ 45 ∧ c.toNat < 128) → decode (dash (plain l) ++ T') = (l, 0) := by
 obtain ⟨hl, ha, he⟩ := encode_ok h
 have hall := List.all_eq_true.1 ha
 have hpl : (plain l).length = (l.filter (lt_ 128)).length := by rw [← plain_ints ha, List.length_map]
 have hdl : (dash (plain l)).length ≤ 257 := by
  have : (l.filter (lt_ 128)).length ≤ l.length := List.length_filter_le _ _
  unfold dash; split <;> first | omega | (simp; omega)
 obtain ⟨T, h1, h2, h3, h4⟩ := loop_sim l (plain l).length hall hl l.length 128 (dash (plain l)) 0 72 (plain l).length 128 0 (by omega) (by omega) (by rw [hpl]) (by omega) (by omega) (by omega) (by omega) (by omega) (by omega) (by omega) (by simp) (by omega) (by omega) (by omega)
 refine ⟨T, by rw [he, h1], h2, by rw [he, h1]; exact h3, fun T' hd hT => ?_⟩
 have hlen : T'.length = T.length := by
  have := congrArg List.length hd
  simpa using this
 rw [List.length_append] at h3
 have hs : (dash (plain l) ++ T').length = (dash (plain l)).length + T.length := by rw [List.length_append, hlen]
 have key : dec (dash (plain l) ++ T') = some l := by
  unfold dec
  rw [if_pos]
  ·have hn : ∀ c ∈ T', c ≠ 45 := fun c hc => (hT c hc).1
   by_cases hp : (plain l).length = 0
   ·have hp0 : plain l = [] := List.eq_nil_of_length_eq_zero hp
    have hda : dash (plain l) = [] := by unfold dash; rw [if_pos hp, hp0]
    rw [hda, List.nil_append, cut_none T' hn, if_neg (by omega)]
    have := h4 (T'.length + 1) (by omega)
    rw [decL_congr _ _ _ _ _ _ _ hd.symm] at this
    rw [← this]
    have hf : l.filter (lt_ 128) = [] := List.eq_nil_of_length_eq_zero (by omega)
    rw [hf]; rfl
   ·have hda : dash (plain l) = plain l ++ [45] := by unfold dash; rw [if_neg hp]
    rw [hda, cut_dash (plain l) T' hn, if_pos (by omega)]
    rw [show (((plain l).length : Int) + 1).toNat = (plain l ++ [45]).length by (first | (simp; done) | (simp; omega)), List.drop_left, Int.toNat_natCast, List.append_assoc, List.take_left, plain_ints ha]
    have := h4 ((plain l ++ ([45] ++ T')).length + 1) (by simp; omega)
    rw [decL_congr _ _ _ _ _ _ _ hd.symm] at this
    exact this
  ·rw [List.all_append, Bool.and_eq_true]
   constructor
   ·rw [List.all_eq_true]
    intro c hc
    unfold dash at hc
    split at hc
    ·simpa using plain_ok ha c hc
    ·rcases List.mem_append.1 hc with h | h
     ·simpa using plain_ok ha c h
     ·simp at h; subst h; decide
   ·rw [List.all_eq_true]
    intro c hc
    simpa using (hT c hc).2
 unfold decode
 rw [if_neg (by rw [hs]; omega), key]
theorem low_ok {c : UInt8} (h : lowOrDigit c) : c ≠ 45 ∧ c.toNat < 128 := by
 unfold lowOrDigit at h
 refine ⟨fun he => ?_, by omega⟩
 subst he
 have : (45 : UInt8).toNat = 45 := rfl
 omega
theorem decode_encode {l : List Int} (h : (encode l).2 = 0) : decode (encode l).1 = (l, 0) := by
 obtain ⟨T, h1, h2, h3, h4⟩ := round h
 rw [h1]
 exact h4 T rfl (fun c hc => low_ok (h2 c hc))
end Go.Puny
namespace Go.Puny
def ints (s : List UInt8) : List Int := s.map fun c => (c.toNat : Int)
end Go.Puny
