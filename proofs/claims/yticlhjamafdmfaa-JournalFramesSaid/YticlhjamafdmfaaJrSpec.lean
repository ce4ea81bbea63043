/-! What bits and journal compute, in plain Lean. -/
namespace Jr
/-- The byte at a place of a number of so many bytes. -/
def putAt (n width i : Nat) : UInt8 := UInt8.ofNat (n / 2 ^ (8 * (width - 1 - i)))
def put (n width : Nat) : List UInt8 := (List.range width).map (putAt n width)
theorem put_len (n width : Nat) : (put n width).length = width := by simp [put]
/-- A number out of bytes. -/
def get (l : List UInt8) : Nat := l.foldl (fun n b => n * 256 + b.toNat) 0
/-- One bit of a check sum. -/
def bit (s : UInt32) : UInt32 := if s &&& 1 = 1 then (s >>> 1) ^^^ 3988292384 else s >>> 1
def bitsN : Nat → UInt32 → UInt32
  | 0, s => s
  | k + 1, s => bit (bitsN k s)
def crcB (s : UInt32) (b : UInt8) : UInt32 := bitsN 8 (s ^^^ b.toUInt32)
def crc (l : List UInt8) : UInt32 := ~~~ (l.foldl crcB 4294967295)
def frame (p : List UInt8) : List UInt8 := let n := put p.length 2; n ++ put (crc (n ++ p)).toNat 4 ++ p
/-- The record at the front; whether there is one. -/
def next (b : List UInt8) : List UInt8 × Bool :=
  if b.length < 2 then ([], false) else
  if 60000 < get (b.take 2) ∨ b.length < 6 + get (b.take 2) then ([], false) else
  ((b.drop 6).take (get (b.take 2)), decide (frame ((b.drop 6).take (get (b.take 2))) = b.take (6 + get (b.take 2))))
/-- All records from the front on, and where the last one ends. -/
def scanF : Nat → List UInt8 → List (List UInt8) × Nat
  | 0, _ => ([], 0)
  | k + 1, b => if b.length = 0 then ([], 0) else
    if (next b).2 = true then ((next b).1 :: (scanF k (b.drop (6 + (next b).1.length))).1, 6 + (next b).1.length + (scanF k (b.drop (6 + (next b).1.length))).2) else ([], 0)
def scan (b : List UInt8) : List (List UInt8) × Nat := scanF (b.length + 1) b
/-- A record that was read lies within. -/
theorem next_le (b : List UInt8) (h : (next b).2 = true) : 6 + (next b).1.length ≤ b.length := by
  unfold next at *
  split at h
  · cases h
  · rename_i h2
    split at h
    · cases h
    · rename_i h3
      rw [if_neg h2, if_neg h3]
      simp
      omega
theorem scanF_len : ∀ (k : Nat) (b : List UInt8), (scanF k b).1.length ≤ b.length := by
  intro k
  induction k with
  | zero => intro b; simp [scanF]
  | succ k ih =>
    intro b
    rw [scanF]
    split
    · simp
    · split
      · rename_i hn
        have h1 := next_le b hn
        have h2 := ih (b.drop (6 + (next b).1.length))
        rw [List.length_drop] at h2
        simp only [List.length_cons]
        omega
      · simp
theorem scan_len (b : List UInt8) : (scan b).1.length ≤ b.length := scanF_len _ _
end Jr
