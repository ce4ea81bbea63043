import Derived.Test.YticlhjamafdmfaaLvZ
set_option linter.unusedVariables false
set_option linter.unusedSimpArgs false
/-! Bits of numbers, for rewriting. -/
namespace Go.Lv
variable {P : Program} {xt : TypeId}
theorem ofInt_nat (w n : Nat) : BitVec.ofInt w (n : Int) = BitVec.ofNat w n := by
  apply BitVec.eq_of_toNat_eq
  simp [BitVec.toNat_ofInt, BitVec.toNat_ofNat]
theorem wrap_u32_nat {n : Nat} (h : n < 4294967296) : IntKind.wrap .u32 (n : Int) = n := wrap_u32 (by omega) (by omega)
theorem u32_toNat_lt (s : UInt32) : s.toNat < 4294967296 := s.toNat_lt
theorem bin_xor_u32 {s t : UInt32} : bin P .xor xt (.v (.int .u32 (s.toNat : Int))) (.v (.int .u32 (t.toNat : Int))) = some (.v (.int .u32 ((s ^^^ t).toNat : Int))) := by
  simp only [bin, binI, if_true, Option.map_some, ofInt_nat]
  have : (BitVec.ofNat (IntKind.bits .u32) s.toNat ^^^ BitVec.ofNat (IntKind.bits .u32) t.toNat).toNat = (s ^^^ t).toNat := by
    show (BitVec.ofNat 32 s.toNat ^^^ BitVec.ofNat 32 t.toNat).toNat = _
    simp [UInt32.toNat_xor]
  rw [this, wrap_u32_nat (u32_toNat_lt _)]
theorem bin_and_u32 {s t : UInt32} : bin P .and xt (.v (.int .u32 (s.toNat : Int))) (.v (.int .u32 (t.toNat : Int))) = some (.v (.int .u32 ((s &&& t).toNat : Int))) := by
  simp only [bin, binI, if_true, Option.map_some, ofInt_nat]
  have : (BitVec.ofNat (IntKind.bits .u32) s.toNat &&& BitVec.ofNat (IntKind.bits .u32) t.toNat).toNat = (s &&& t).toNat := by
    show (BitVec.ofNat 32 s.toNat &&& BitVec.ofNat 32 t.toNat).toNat = _
    simp [UInt32.toNat_and]
  rw [this, wrap_u32_nat (u32_toNat_lt _)]
theorem un1_xor_u32 {s : UInt32} : un1 .xor (.v (.int .u32 (s.toNat : Int))) = some (.v (.int .u32 ((~~~ s).toNat : Int))) := by
  have hm : IntKind.max .u32 = ((4294967295 : Nat) : Int) := by decide +kernel
  simp only [un1, binI, IntKind.signed, Bool.false_eq_true, if_false, hm, Option.map_some, ofInt_nat]
  have : (BitVec.ofNat (IntKind.bits .u32) 4294967295 ^^^ BitVec.ofNat (IntKind.bits .u32) s.toNat).toNat = (~~~ s).toNat := by
    show (BitVec.ofNat 32 4294967295 ^^^ BitVec.ofNat 32 s.toNat).toNat = _
    have e : BitVec.ofNat 32 4294967295 = BitVec.allOnes 32 := by decide
    have : BitVec.ofNat 32 4294967295 ^^^ BitVec.ofNat 32 s.toNat = ~~~ s.toBitVec := by
      rw [show BitVec.ofNat 32 s.toNat = s.toBitVec by simp, e, BitVec.allOnes_xor]
    rw [this]; rfl
  rw [this, wrap_u32_nat (u32_toNat_lt _)]
theorem or_byte {n : Nat} {b : UInt8} (h : n < 1099511627776) : bin P .or xt (.v (.int .i64 ((n : Int) * 256))) (.v (.int .i64 (b.toNat : Int))) = some (.v (.int .i64 ((n * 256 + b.toNat : Nat) : Int))) := by
  have hb := b.toNat_lt
  rw [show (n : Int) * 256 = ((n * 256 : Nat) : Int) by omega]
  simp only [bin, binI, if_true, Option.map_some, ofInt_nat]
  have : (BitVec.ofNat (IntKind.bits .i64) (n * 256) ||| BitVec.ofNat (IntKind.bits .i64) b.toNat).toNat = n * 256 + b.toNat := by
    show (BitVec.ofNat 64 (n * 256) ||| BitVec.ofNat 64 b.toNat).toNat = _
    rw [BitVec.toNat_or, BitVec.toNat_ofNat, BitVec.toNat_ofNat, Nat.mod_eq_of_lt (by omega), Nat.mod_eq_of_lt (by omega)]
    have := Nat.two_pow_add_eq_or_of_lt (i := 8) (b := b.toNat) (by omega) n
    rw [Nat.mul_comm n 256]
    exact this.symm
  rw [this, wrap_i64 (by omega) (by omega)]
theorem bin_xor_ub {s : UInt32} {b : UInt8} : bin P .xor xt (.v (.int .u32 (s.toNat : Int))) (.v (.int .u32 (b.toNat : Int))) = some (.v (.int .u32 ((s ^^^ b.toUInt32).toNat : Int))) := by
  rw [show (b.toNat : Int) = (b.toUInt32.toNat : Int) by simp]; exact bin_xor_u32
theorem bin_and_one {s : UInt32} : bin P .and xt (.v (.int .u32 (s.toNat : Int))) (.v (.int .u32 1)) = some (.v (.int .u32 ((s &&& 1).toNat : Int))) := bin_and_u32 (t := 1)
theorem bin_xor_poly {s : UInt32} : bin P .xor xt (.v (.int .u32 (s.toNat : Int))) (.v (.int .u32 3988292384)) = some (.v (.int .u32 ((s ^^^ 3988292384).toNat : Int))) := bin_xor_u32 (t := 3988292384)
theorem bin_shr_one {s : UInt32} : bin P .shr xt (.v (.int .u32 (s.toNat : Int))) (.v (.int .u64 1)) = some (.v (.int .u32 ((s >>> 1).toNat : Int))) := by
  rw [bin_shr_u32 (by omega) (by omega)]
  have : (s >>> 1).toNat = s.toNat / 2 := by rw [UInt32.toNat_shiftRight]; simp [Nat.shiftRight_eq_div_pow]
  rw [this]; push_cast; rfl
end Go.Lv
