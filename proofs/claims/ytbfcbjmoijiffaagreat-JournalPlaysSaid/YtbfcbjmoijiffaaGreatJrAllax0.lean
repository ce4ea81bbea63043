/- A value semantics of the loaded code, its soundness, and walks through functions over it. -/
import Derived.Test.YtbfcbjmoijiffaaGreatLvAll8
/-! What bits and journal compute, in plain Lean. -/
namespace Jr
/-- The byte at a place of a number of so many bytes. -/
def putAt (n width i : Nat) : UInt8 := UInt8.ofNat (n / 2 ^ (8 * (width - 1 - i)))
def put (n width : Nat) : List UInt8 := (List.range width).map (putAt n width)
theorem put_len (n width : Nat) : (put n width).length = width := by simp [put]
/-- A number out of bytes. -/
def get (l : List UInt8) : Nat := l.foldl (fun n b => n * 256 + b.toNat) 0
/-- One bit of a check sum. -/
def bit (s : UInt32) : UInt32 := if s &&& 1 = 1 then (s >>> 1) ^^^ 3988292384 else s >>> 1
def bitsN : Nat → UInt32 → UInt32
  | 0, s => s
  | k + 1, s => bit (bitsN k s)
def crcB (s : UInt32) (b : UInt8) : UInt32 := bitsN 8 (s ^^^ b.toUInt32)
def crc (l : List UInt8) : UInt32 := ~~~ (l.foldl crcB 4294967295)
def frame (p : List UInt8) : List UInt8 := let n := put p.length 2; n ++ put (crc (n ++ p)).toNat 4 ++ p
/-- The record at the front; whether there is one. -/
def next (b : List UInt8) : List UInt8 × Bool :=
  if b.length < 2 then ([], false) else
  if 60000 < get (b.take 2) ∨ b.length < 6 + get (b.take 2) then ([], false) else
  ((b.drop 6).take (get (b.take 2)), decide (frame ((b.drop 6).take (get (b.take 2))) = b.take (6 + get (b.take 2))))
/-- All records from the front on, and where the last one ends. -/
def scanF : Nat → List UInt8 → List (List UInt8) × Nat
  | 0, _ => ([], 0)
  | k + 1, b => if b.length = 0 then ([], 0) else
    if (next b).2 = true then ((next b).1 :: (scanF k (b.drop (6 + (next b).1.length))).1, 6 + (next b).1.length + (scanF k (b.drop (6 + (next b).1.length))).2) else ([], 0)
def scan (b : List UInt8) : List (List UInt8) × Nat := scanF (b.length + 1) b
/-- A record that was read lies within. -/
theorem next_le (b : List UInt8) (h : (next b).2 = true) : 6 + (next b).1.length ≤ b.length := by
  unfold next at *
  split at h
  · cases h
  · rename_i h2
    split at h
    · cases h
    · rename_i h3
      rw [if_neg h2, if_neg h3]
      simp
      omega
theorem scanF_len : ∀ (k : Nat) (b : List UInt8), (scanF k b).1.length ≤ b.length := by
  intro k
  induction k with
  | zero => intro b; simp [scanF]
  | succ k ih =>
    intro b
    rw [scanF]
    split
    · simp
    · split
      · rename_i hn
        have h1 := next_le b hn
        have h2 := ih (b.drop (6 + (next b).1.length))
        rw [List.length_drop] at h2
        simp only [List.length_cons]
        omega
      · simp
theorem scan_len (b : List UInt8) : (scan b).1.length ≤ b.length := scanF_len _ _
end Jr
set_option linter.unusedVariables false
set_option linter.unusedSimpArgs false
/-! Bits of numbers, for rewriting. -/
namespace Go.Lv
variable {P : Program} {xt : TypeId}
theorem ofInt_nat (w n : Nat) : BitVec.ofInt w (n : Int) = BitVec.ofNat w n := by
  apply BitVec.eq_of_toNat_eq
  simp [BitVec.toNat_ofInt, BitVec.toNat_ofNat]
theorem wrap_u32_nat {n : Nat} (h : n < 4294967296) : IntKind.wrap .u32 (n : Int) = n := wrap_u32 (by omega) (by omega)
theorem u32_toNat_lt (s : UInt32) : s.toNat < 4294967296 := s.toNat_lt
theorem bin_xor_u32 {s t : UInt32} : bin P .xor xt (.v (.int .u32 (s.toNat : Int))) (.v (.int .u32 (t.toNat : Int))) = some (.v (.int .u32 ((s ^^^ t).toNat : Int))) := by
  simp only [bin, binI, if_true, Option.map_some, ofInt_nat]
  have : (BitVec.ofNat (IntKind.bits .u32) s.toNat ^^^ BitVec.ofNat (IntKind.bits .u32) t.toNat).toNat = (s ^^^ t).toNat := by
    show (BitVec.ofNat 32 s.toNat ^^^ BitVec.ofNat 32 t.toNat).toNat = _
    simp [UInt32.toNat_xor]
  rw [this, wrap_u32_nat (u32_toNat_lt _)]
theorem bin_and_u32 {s t : UInt32} : bin P .and xt (.v (.int .u32 (s.toNat : Int))) (.v (.int .u32 (t.toNat : Int))) = some (.v (.int .u32 ((s &&& t).toNat : Int))) := by
  simp only [bin, binI, if_true, Option.map_some, ofInt_nat]
  have : (BitVec.ofNat (IntKind.bits .u32) s.toNat &&& BitVec.ofNat (IntKind.bits .u32) t.toNat).toNat = (s &&& t).toNat := by
    show (BitVec.ofNat 32 s.toNat &&& BitVec.ofNat 32 t.toNat).toNat = _
    simp [UInt32.toNat_and]
  rw [this, wrap_u32_nat (u32_toNat_lt _)]
theorem un1_xor_u32 {s : UInt32} : un1 .xor (.v (.int .u32 (s.toNat : Int))) = some (.v (.int .u32 ((~~~ s).toNat : Int))) := by
  have hm : IntKind.max .u32 = ((4294967295 : Nat) : Int) := by decide +kernel
  simp only [un1, binI, IntKind.signed, Bool.false_eq_true, if_false, hm, Option.map_some, ofInt_nat]
  have : (BitVec.ofNat (IntKind.bits .u32) 4294967295 ^^^ BitVec.ofNat (IntKind.bits .u32) s.toNat).toNat = (~~~ s).toNat := by
    show (BitVec.ofNat 32 4294967295 ^^^ BitVec.ofNat 32 s.toNat).toNat = _
    have e : BitVec.ofNat 32 4294967295 = BitVec.allOnes 32 := by decide
    have : BitVec.ofNat 32 4294967295 ^^^ BitVec.ofNat 32 s.toNat = ~~~ s.toBitVec := by
      rw [show BitVec.ofNat 32 s.toNat = s.toBitVec by simp, e, BitVec.allOnes_xor]
    rw [this]; rfl
  rw [this, wrap_u32_nat (u32_toNat_lt _)]
theorem or_byte {n : Nat} {b : UInt8} (h : n < 1099511627776) : bin P .or xt (.v (.int .i64 ((n : Int) * 256))) (.v (.int .i64 (b.toNat : Int))) = some (.v (.int .i64 ((n * 256 + b.toNat : Nat) : Int))) := by
  have hb := b.toNat_lt
  rw [show (n : Int) * 256 = ((n * 256 : Nat) : Int) by omega]
  simp only [bin, binI, if_true, Option.map_some, ofInt_nat]
  have : (BitVec.ofNat (IntKind.bits .i64) (n * 256) ||| BitVec.ofNat (IntKind.bits .i64) b.toNat).toNat = n * 256 + b.toNat := by
    show (BitVec.ofNat 64 (n * 256) ||| BitVec.ofNat 64 b.toNat).toNat = _
    rw [BitVec.toNat_or, BitVec.toNat_ofNat, BitVec.toNat_ofNat, Nat.mod_eq_of_lt (by omega), Nat.mod_eq_of_lt (by omega)]
    have := Nat.two_pow_add_eq_or_of_lt (i := 8) (b := b.toNat) (by omega) n
    rw [Nat.mul_comm n 256]
    exact this.symm
  rw [this, wrap_i64 (by omega) (by omega)]
theorem bin_xor_ub {s : UInt32} {b : UInt8} : bin P .xor xt (.v (.int .u32 (s.toNat : Int))) (.v (.int .u32 (b.toNat : Int))) = some (.v (.int .u32 ((s ^^^ b.toUInt32).toNat : Int))) := by
  rw [show (b.toNat : Int) = (b.toUInt32.toNat : Int) by simp]; exact bin_xor_u32
theorem bin_and_one {s : UInt32} : bin P .and xt (.v (.int .u32 (s.toNat : Int))) (.v (.int .u32 1)) = some (.v (.int .u32 ((s &&& 1).toNat : Int))) := bin_and_u32 (t := 1)
theorem bin_xor_poly {s : UInt32} : bin P .xor xt (.v (.int .u32 (s.toNat : Int))) (.v (.int .u32 3988292384)) = some (.v (.int .u32 ((s ^^^ 3988292384).toNat : Int))) := bin_xor_u32 (t := 3988292384)
theorem bin_shr_one {s : UInt32} : bin P .shr xt (.v (.int .u32 (s.toNat : Int))) (.v (.int .u64 1)) = some (.v (.int .u32 ((s >>> 1).toNat : Int))) := by
  rw [bin_shr_u32 (by omega) (by omega)]
  have : (s >>> 1).toNat = s.toNat / 2 := by rw [UInt32.toNat_shiftRight]; simp [Nat.shiftRight_eq_div_pow]
  rw [this]; push_cast; rfl
end Go.Lv
