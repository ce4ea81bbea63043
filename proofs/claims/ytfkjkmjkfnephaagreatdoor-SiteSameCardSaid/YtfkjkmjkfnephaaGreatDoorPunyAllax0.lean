/- What the functions of the chapter on signs by few letters compute, in plain words of numbers and lists. -/
import Derived.RowKit
set_option linter.unusedVariables false
namespace Go.Puny
def scalar (c : Int) : Bool := decide (0 ≤ c) && decide (c ≤ 1114111) && (decide (c < 55296) || decide (57343 < c))
def thr (k bias : Int) : Int := min (max (k - bias) 1) 26
def ltr (d : Int) : UInt8 := if d < 26 then UInt8.ofNat (97 + d).toNat else UInt8.ofNat (22 + d).toNat
def dgt (c : UInt8) : Int := if 97 ≤ c.toNat ∧ c.toNat ≤ 122 then c.toNat - 97 else if 65 ≤ c.toNat ∧ c.toNat ≤ 90 then c.toNat - 65 else if 48 ≤ c.toNat ∧ c.toNat ≤ 57 then c.toNat - 48 + 26 else 36
def adaptL (d k : Int) : Int × Int := if h : 455 < d then adaptL (d / 35) (k + 36) else (d, k)
termination_by d.toNat
decreasing_by omega
def adapt (delta n : Int) (begin_ : Bool) : Int :=
 let d0 := if begin_ then delta / 700 else delta / 2
 let r := adaptL (d0 + d0 / n) 0
 r.2 + 36 * r.1 / (r.1 + 38)
def nx (n m c : Int) : Int := if n ≤ c then min m c else m
def nxt (l : List Int) (n : Int) : Int := l.foldl (nx n) 2147483647
theorem thr_bnd (k b : Int) : 1 ≤ thr k b ∧ thr k b ≤ 26 := by unfold thr; omega
theorem div_lt_self' {q t : Int} (h1 : 1 ≤ t) (h2 : t ≤ 26) (h : t ≤ q) : 0 ≤ (q - t) / (36 - t) ∧ (q - t) / (36 - t) < q := by
 refine ⟨Int.ediv_nonneg (by omega) (by omega), ?_⟩
 have := Int.ediv_le_self (36 - t) (show 0 ≤ q - t by omega)
 omega
def numL (q k bias : Int) : List UInt8 :=
 if h : q < thr k bias then [ltr q] else ltr (thr k bias + (q - thr k bias) % (36 - thr k bias)) :: numL ((q - thr k bias) / (36 - thr k bias)) (k + 36) bias
termination_by q.toNat
decreasing_by
 have h1 := thr_bnd k bias
 have h2 := div_lt_self' h1.1 h1.2 (show thr k bias ≤ q by omega)
 omega
def deltaR : List UInt8 → Int → Int → Int → Int → Int → Option (Int × Int)
 | [], _, _, _, _, _ => none
 | c :: r, at_, i, w, k, bias =>
  if dgt c = 36 ∨ (2147483647 - i) / w < dgt c then none else
  if dgt c < thr k bias then some (i + dgt c * w, at_ + 1) else
  if 2147483647 / (36 - thr k bias) < w then none else deltaR r (at_ + 1) (i + dgt c * w) (w * (36 - thr k bias)) (k + 36) bias
def lastIx (s : List UInt8) (c : UInt8) : Nat → Int
 | 0 => -1
 | n + 1 => if s.getD n 0 = c then n else lastIx s c n
def eStep (n basic : Int) (s : List UInt8 × Int × Int × Int) (c : Int) : List UInt8 × Int × Int × Int :=
 if c < n then (s.1, s.2.1 + 1, s.2.2.1, s.2.2.2)
 else if c = n then (s.1 ++ numL s.2.1 36 s.2.2.1, 0, adapt s.2.1 (s.2.2.2 + 1) (decide (s.2.2.2 = basic)), s.2.2.2 + 1)
 else s
def eRound (l : List Int) (basic n : Int) (s : List UInt8 × Int × Int × Int) : List UInt8 × Int × Int × Int :=
 l.foldl (eStep (nxt l n) basic) (s.1, s.2.1 + (nxt l n - n) * (s.2.2.2 + 1), s.2.2.1, s.2.2.2)
def eLoop (l : List Int) (basic : Int) : Nat → Int → List UInt8 × Int × Int × Int → List UInt8
 | 0, _, s => s.1
 | k + 1, n, s => if s.2.2.2 < l.length then
   let r := eRound l basic n s
   eLoop l basic k (nxt l n + 1) (r.1, r.2.1 + 1, r.2.2.1, r.2.2.2)
  else s.1
def plain (l : List Int) : List UInt8 := (l.filter fun c => decide (c < 128)).map fun c => UInt8.ofNat c.toNat
def dash (b : List UInt8) : List UInt8 := if b.length = 0 then b else b ++ [45]
def enc (l : List Int) : Option (List UInt8) :=
 if l.all scalar = true then some (eLoop l (plain l).length l.length 128 (dash (plain l), 0, 72, (plain l).length)) else none
def encode (l : List Int) : List UInt8 × Int :=
 if 256 < l.length then ([], 11) else match enc l with
 | some s => (s, 0)
 | none => ([], 1)
def decL : Nat → List UInt8 → List Int → Int → Int → Int → Option (List Int)
 | 0, _, _, _, _, _ => none
 | k + 1, r, l, n, i, bias =>
  if 256 < l.length then none else if r.length = 0 then some l else
  match deltaR r 0 i 1 36 bias with
  | none => none
  | some (x, e) =>
   if 2147483647 < n + x / (l.length + 1) then none else
   if scalar (n + x / (l.length + 1)) = false then none else
   decL k (r.drop e.toNat) (l.take (x % (l.length + 1)).toNat ++ (n + x / (l.length + 1)) :: l.drop (x % (l.length + 1)).toNat) (n + x / (l.length + 1)) (x % (l.length + 1) + 1) (adapt (x - i) (l.length + 1) (decide (i = 0)))
def cutAt (s : List UInt8) : Int := lastIx s 45 s.length
def dec (s : List UInt8) : Option (List Int) :=
 if s.all (fun c => decide (c.toNat < 128)) = true then
  decL (s.length + 1) (if 0 < cutAt s then s.drop (cutAt s + 1).toNat else s) ((s.take (cutAt s).toNat).map fun c => (c.toNat : Int)) 128 0 72
 else none
def decode (s : List UInt8) : List Int × Int :=
 if 4000 < s.length then ([], 11) else match dec s with
 | some l => (l, 0)
 | none => ([], 4)
end Go.Puny
/- Plain facts on signs by few letters: bounds, what a pass does. -/
set_option linter.unusedVariables false
set_option linter.unusedSimpArgs false
namespace Go.Puny
theorem adaptL_up : ∀ (m : Nat) (d k : Int), 0 ≤ d → d < 456 * 35 ^ m → (adaptL d k).2 ≤ k + 36 * m ∧ 0 ≤ (adaptL d k).1 ∧ (adaptL d k).1 ≤ 455 ∧ k ≤ (adaptL d k).2 := by
 intro m
 induction m with
 | zero =>
  intro d k h0 h
  rw [adaptL, dif_neg (by simp at h; omega)]
  simp at h
  refine ⟨?_, ?_, ?_, ?_⟩ <;> simp only <;> omega
 | succ m ih =>
  intro d k h0 h
  rw [adaptL]
  by_cases hd : 455 < d
  ·rw [dif_pos hd]
   have := ih (d / 35) (k + 36) (by omega) (by rw [Int.pow_succ] at h; omega)
   omega
  ·rw [dif_neg hd]
   refine ⟨?_, ?_, ?_, ?_⟩ <;> simp only <;> omega
theorem adapt_bnd (delta n : Int) (b : Bool) (h0 : 0 ≤ delta) (h1 : delta < 1000000000000) (hn : 0 < n) : 0 ≤ adapt delta n b ∧ adapt delta n b ≤ 400 := by
 have hd : ∀ x : Int, 0 ≤ x → 0 ≤ x / n ∧ x / n ≤ x := fun x hx => ⟨Int.ediv_nonneg hx (by omega), Int.ediv_le_self _ hx⟩
 unfold adapt
 simp only
 generalize hd0 : (if b = true then delta / 700 else delta / 2) = d0
 have hd1 : 0 ≤ d0 ∧ d0 ≤ delta := by
  cases b
  ·simp at hd0; omega
  ·simp at hd0; omega
 have h2 := hd d0 hd1.1
 have h3 := adaptL_up 7 (d0 + d0 / n) 0 (by omega) (by
  have : (456 : Int) * 35 ^ 7 = 29338719375000 := by decide
  omega)
 generalize adaptL (d0 + d0 / n) 0 = r at *
 have h4 : 0 ≤ 36 * r.1 / (r.1 + 38) := Int.ediv_nonneg (by omega) (by omega)
 have h5 : 36 * r.1 / (r.1 + 38) < 37 := Int.ediv_lt_of_lt_mul (by omega) (by omega)
 omega
theorem numL_len : ∀ (m : Nat) (q k bias : Int), 0 ≤ q → q < 10 ^ m → (numL q k bias).length ≤ m + 1 ∧ 0 < (numL q k bias).length := by
 intro m
 induction m with
 | zero =>
  intro q k bias h0 h
  have h1 := thr_bnd k bias
  rw [numL, dif_pos (by simp at h; omega)]
  simp
 | succ m ih =>
  intro q k bias h0 h
  have h1 := thr_bnd k bias
  rw [numL]
  by_cases hq : q < thr k bias
  ·rw [dif_pos hq]; simp
  ·rw [dif_neg hq]
   have h2 : (q - thr k bias) / (36 - thr k bias) < 10 ^ m := by
    apply Int.ediv_lt_of_lt_mul (by omega)
    have hp : (0 : Int) < 10 ^ m := Int.pow_pos (by omega)
    have : (10 : Int) ^ m * 10 ≤ 10 ^ m * (36 - thr k bias) := Int.mul_le_mul_of_nonneg_left (by omega) (by omega)
    rw [Int.pow_succ] at h
    omega
   have h3 : 0 ≤ (q - thr k bias) / (36 - thr k bias) := Int.ediv_nonneg (by omega) (by omega)
   have := ih _ (k + 36) bias h3 h2
   simp only [List.length_cons]
   omega
theorem scalar_bnd {c : Int} (h : scalar c = true) : 0 ≤ c ∧ c ≤ 1114111 := by
 simp [scalar] at h; omega
theorem nxt_aux (n : Int) : ∀ (l : List Int) (m : Int), ((l.foldl (nx n) m = m ∨ (l.foldl (nx n) m ∈ l ∧ n ≤ l.foldl (nx n) m)) ∧ l.foldl (nx n) m ≤ m ∧ ∀ c ∈ l, n ≤ c → l.foldl (nx n) m ≤ c) := by
 intro l
 induction l with
 | nil => intro m; simp
 | cons c l ih =>
  intro m
  have := ih (nx n m c)
  simp only [List.foldl_cons, List.mem_cons]
  have hn : nx n m c ≤ m ∧ (n ≤ c → nx n m c ≤ c) ∧ (nx n m c = m ∨ (nx n m c = c ∧ n ≤ c)) := by
   unfold nx; split <;> omega
  generalize List.foldl (nx n) (nx n m c) l = r at *
  refine ⟨?_, by omega, fun d hd hnd => ?_⟩
  ·rcases this.1 with h | ⟨h, h'⟩
   ·rcases hn.2.2 with h2 | ⟨h2, h3⟩
    ·left; omega
    ·right; exact ⟨.inl (by omega), by omega⟩
   ·right; exact ⟨.inr h, h'⟩
  ·rcases hd with rfl | hd
   ·have := hn.2.1 hnd; omega
   ·exact this.2.2 d hd hnd
theorem nxt_spec {l : List Int} {n : Int} (h : ∃ c ∈ l, n ≤ c) (hb : ∀ c ∈ l, c ≤ 1114111) : nxt l n ∈ l ∧ n ≤ nxt l n ∧ nxt l n ≤ 1114111 ∧ ∀ c ∈ l, n ≤ c → nxt l n ≤ c := by
 obtain ⟨c, hc, hnc⟩ := h
 have := nxt_aux n l 2147483647
 unfold nxt
 have h1 := this.2.2 c hc hnc
 have h2 := hb c hc
 refine ⟨?_, ?_, by omega, this.2.2⟩
 ·rcases this.1 with h | h
  ·omega
  ·exact h.1
 ·rcases this.1 with h | h
  ·omega
  ·exact h.2
theorem pass_bnd (m basic : Int) (N : Int) (hN : N < 500000000) : ∀ (l : List Int) (s : List UInt8 × Int × Int × Int), 0 ≤ s.2.1 → s.2.1 + l.length ≤ N → 0 ≤ s.2.2.1 → s.2.2.1 ≤ 400 → 0 ≤ s.2.2.2 → (s.1.length : Int) ≤ 257 + 11 * s.2.2.2 →
  let r := l.foldl (eStep m basic) s
  0 ≤ r.2.1 ∧ r.2.1 ≤ s.2.1 + l.length ∧ 0 ≤ r.2.2.1 ∧ r.2.2.1 ≤ 400 ∧ r.2.2.2 = s.2.2.2 + (l.countP fun c => decide (c = m)) ∧ (r.1.length : Int) ≤ 257 + 11 * r.2.2.2 ∧ (0 < (l.countP fun c => decide (c = m)) → r.2.1 ≤ l.length) := by
 intro l
 induction l with
 | nil => intro s h0 h1 h2 h3 h4 h5; simp; omega
 | cons c l ih =>
  intro s h0 h1 h2 h3 h4 h5
  simp only [List.length_cons] at h1
  have key : let t := eStep m basic s c
    0 ≤ t.2.1 ∧ t.2.1 ≤ s.2.1 + 1 ∧ 0 ≤ t.2.2.1 ∧ t.2.2.1 ≤ 400 ∧ t.2.2.2 = s.2.2.2 + (if c = m then 1 else 0) ∧ (t.1.length : Int) ≤ 257 + 11 * t.2.2.2 ∧ (c = m → t.2.1 = 0) := by
   simp only [eStep]
   by_cases hc : c < m
   ·rw [if_pos hc]
    simp only
    rw [if_neg (by omega)]
    omega
   ·rw [if_neg hc]
    by_cases he : c = m
    ·rw [if_pos he, if_pos he]
     simp only
     have ha := adapt_bnd s.2.1 (s.2.2.2 + 1) (decide (s.2.2.2 = basic)) h0 (by omega) (by omega)
     have hl := (numL_len 9 s.2.1 36 s.2.2.1 h0 (by omega)).1
     simp only [List.length_append]
     refine ⟨by first | trivial | omega, by omega, ha.1, ha.2, ?_, ?_, ?_⟩
     all_goals first | trivial | omega | (intros; trivial)
    ·rw [if_neg he, if_neg he]
     omega
  simp only at key
  obtain ⟨k1, k2, k3, k4, k5, k6, k7⟩ := key
  have := ih (eStep m basic s c) k1 (by omega) k3 k4 (by split at k5 <;> omega) k6
  simp only at this
  simp only [List.foldl_cons, List.length_cons, List.countP_cons]
  obtain ⟨r1, r2, r3, r4, r5, r6, r7⟩ := this
  refine ⟨r1, by omega, r3, r4, ?_, r6, ?_⟩
  ·rw [r5, k5]
   by_cases he : c = m <;> simp [he] <;> omega
  ·intro hp
   by_cases he : c = m
   ·have := k7 he
    omega
   ·rw [if_neg (by simpa using he)] at hp
    have := r7 (by omega)
    omega
theorem countP_split (l : List Int) (n m : Int) (h : n ≤ m) (hm : ∀ c ∈ l, n ≤ c → m ≤ c) : (l.countP fun c => decide (c < n)) + (l.countP fun c => decide (c = m)) = l.countP fun c => decide (c < m + 1) := by
 induction l with
 | nil => rfl
 | cons c l ih =>
  have ih := ih (fun c hc => hm c (List.mem_cons_of_mem _ hc))
  have hc := hm c (List.mem_cons_self ..)
  simp only [List.countP_cons]
  by_cases h1 : c < n
  ·have h2 : ¬ c = m := by omega
   have h3 : c < m + 1 := by omega
   simp only [h1, h2, h3, decide_true, decide_false, if_true, Bool.false_eq_true, if_false]
   omega
  ·by_cases h2 : c = m
   ·have h3 : c < m + 1 := by omega
    simp only [h1, h2, h3, decide_true, decide_false, if_true, Bool.false_eq_true, if_false]
    simp only [show m < m + 1 by omega, decide_true, if_true, show ¬ m < n by omega, decide_false, Bool.false_eq_true, if_false]
    omega
   ·have h3 : ¬ c < m + 1 := by have := hc (by omega); omega
    simp only [h1, h2, h3, decide_false, Bool.false_eq_true, if_false]
    omega
theorem count_lt {l : List Int} {n : Int} (h : (l.countP fun c => decide (c < n)) < l.length) : ∃ c ∈ l, n ≤ c := by
 by_cases hc : ∃ c ∈ l, n ≤ c
 ·exact hc
 ·exfalso
  have : (l.countP fun c => decide (c < n)) = l.length := by
   rw [List.countP_eq_length]
   intro c hcl
   have : ¬ n ≤ c := fun hn => hc ⟨c, hcl, hn⟩
   simpa using (show c < n by omega)
  omega
end Go.Puny
