/- What the functions of the chapter on signs by few letters compute, in plain words of numbers and lists. -/
import Derived.RowKit
set_option linter.unusedVariables false
namespace Go.Puny

def scalar (c : Int) : Bool := decide (0 ≤ c) && decide (c ≤ 1114111) && (decide (c < 55296) || decide (57343 < c))
def thr (k bias : Int) : Int := min (max (k - bias) 1) 26
def ltr (d : Int) : UInt8 := if d < 26 then UInt8.ofNat (97 + d).toNat else UInt8.ofNat (22 + d).toNat
def dgt (c : UInt8) : Int := if 97 ≤ c.toNat ∧ c.toNat ≤ 122 then c.toNat - 97 else if 65 ≤ c.toNat ∧ c.toNat ≤ 90 then c.toNat - 65 else if 48 ≤ c.toNat ∧ c.toNat ≤ 57 then c.toNat - 48 + 26 else 36

def adaptL (d k : Int) : Int × Int := if h : 455 < d then adaptL (d / 35) (k + 36) else (d, k)
termination_by d.toNat
decreasing_by omega
def adapt (delta n : Int) (begin_ : Bool) : Int :=
  let d0 := if begin_ then delta / 700 else delta / 2
  let r := adaptL (d0 + d0 / n) 0
  r.2 + 36 * r.1 / (r.1 + 38)

/-- The next sign from n on, as far as one has looked. -/
def nx (n m c : Int) : Int := if n ≤ c then min m c else m
def nxt (l : List Int) (n : Int) : Int := l.foldl (nx n) 2147483647

theorem thr_bnd (k b : Int) : 1 ≤ thr k b ∧ thr k b ≤ 26 := by unfold thr; omega
theorem div_lt_self' {q t : Int} (h1 : 1 ≤ t) (h2 : t ≤ 26) (h : t ≤ q) : 0 ≤ (q - t) / (36 - t) ∧ (q - t) / (36 - t) < q := by
  refine ⟨Int.ediv_nonneg (by omega) (by omega), ?_⟩
  have := Int.ediv_le_self (36 - t) (show 0 ≤ q - t by omega)
  omega
/-- A number's letters. -/
def numL (q k bias : Int) : List UInt8 :=
  if h : q < thr k bias then [ltr q] else ltr (thr k bias + (q - thr k bias) % (36 - thr k bias)) :: numL ((q - thr k bias) / (36 - thr k bias)) (k + 36) bias
termination_by q.toNat
decreasing_by
  have h1 := thr_bnd k bias
  have h2 := div_lt_self' h1.1 h1.2 (show thr k bias ≤ q by omega)
  omega

/-- A number out of its letters, from a place on: the number and where it ends. -/
def deltaR : List UInt8 → Int → Int → Int → Int → Int → Option (Int × Int)
  | [], _, _, _, _, _ => none
  | c :: r, at_, i, w, k, bias =>
    if dgt c = 36 ∨ (2147483647 - i) / w < dgt c then none else
    if dgt c < thr k bias then some (i + dgt c * w, at_ + 1) else
    if 2147483647 / (36 - thr k bias) < w then none else deltaR r (at_ + 1) (i + dgt c * w) (w * (36 - thr k bias)) (k + 36) bias

/-- Where a byte stands last among the first n; -1: nowhere. -/
def lastIx (s : List UInt8) (c : UInt8) : Nat → Int
  | 0 => -1
  | n + 1 => if s.getD n 0 = c then n else lastIx s c n

/-! ### Writing -/
/-- One sign of a pass: letters, delta, bias, how many are done. -/
def eStep (n basic : Int) (s : List UInt8 × Int × Int × Int) (c : Int) : List UInt8 × Int × Int × Int :=
  if c < n then (s.1, s.2.1 + 1, s.2.2.1, s.2.2.2)
  else if c = n then (s.1 ++ numL s.2.1 36 s.2.2.1, 0, adapt s.2.1 (s.2.2.2 + 1) (decide (s.2.2.2 = basic)), s.2.2.2 + 1)
  else s
def eRound (l : List Int) (basic n : Int) (s : List UInt8 × Int × Int × Int) : List UInt8 × Int × Int × Int :=
  l.foldl (eStep (nxt l n) basic) (s.1, s.2.1 + (nxt l n - n) * (s.2.2.2 + 1), s.2.2.1, s.2.2.2)
def eLoop (l : List Int) (basic : Int) : Nat → Int → List UInt8 × Int × Int × Int → List UInt8
  | 0, _, s => s.1
  | k + 1, n, s => if s.2.2.2 < l.length then
      let r := eRound l basic n s
      eLoop l basic k (nxt l n + 1) (r.1, r.2.1 + 1, r.2.2.1, r.2.2.2)
    else s.1
def plain (l : List Int) : List UInt8 := (l.filter fun c => decide (c < 128)).map fun c => UInt8.ofNat c.toNat
def dash (b : List UInt8) : List UInt8 := if b.length = 0 then b else b ++ [45]
def enc (l : List Int) : Option (List UInt8) :=
  if l.all scalar = true then some (eLoop l (plain l).length l.length 128 (dash (plain l), 0, 72, (plain l).length)) else none
/-- The text and the error. -/
def encode (l : List Int) : List UInt8 × Int :=
  if 256 < l.length then ([], 11) else match enc l with
  | some s => (s, 0)
  | none => ([], 1)

/-! ### Reading -/
def decL : Nat → List UInt8 → List Int → Int → Int → Int → Option (List Int)
  | 0, _, _, _, _, _ => none
  | k + 1, r, l, n, i, bias =>
    if 256 < l.length then none else if r.length = 0 then some l else
    match deltaR r 0 i 1 36 bias with
    | none => none
    | some (x, e) =>
      if 2147483647 < n + x / (l.length + 1) then none else
      if scalar (n + x / (l.length + 1)) = false then none else
      decL k (r.drop e.toNat) (l.take (x % (l.length + 1)).toNat ++ (n + x / (l.length + 1)) :: l.drop (x % (l.length + 1)).toNat) (n + x / (l.length + 1)) (x % (l.length + 1) + 1) (adapt (x - i) (l.length + 1) (decide (i = 0)))
def cutAt (s : List UInt8) : Int := lastIx s 45 s.length
def dec (s : List UInt8) : Option (List Int) :=
  if s.all (fun c => decide (c.toNat < 128)) = true then
    decL (s.length + 1) (if 0 < cutAt s then s.drop (cutAt s + 1).toNat else s) ((s.take (cutAt s).toNat).map fun c => (c.toNat : Int)) 128 0 72
  else none
def decode (s : List UInt8) : List Int × Int :=
  if 4000 < s.length then ([], 11) else match dec s with
  | some l => (l, 0)
  | none => ([], 4)

end Go.Puny
