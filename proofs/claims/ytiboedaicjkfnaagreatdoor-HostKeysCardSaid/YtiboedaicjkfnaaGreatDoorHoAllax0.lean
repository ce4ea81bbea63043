/- A value semantics of the loaded code, its soundness, and walks through functions over it. -/
import Derived.Test.YtiboedaicjkfnaaGreatDoorUtSpec
import Derived.Test.YtiboedaicjkfnaaGreatDoorSpSpec
import Derived.Test.YtiboedaicjkfnaaGreatDoorLvAll15
import Derived.Test.YtiboedaicjkfnaaGreatDoorSpA
set_option linter.unusedVariables false
set_option linter.unusedSimpArgs false
namespace Ho
open Go
def dig (c : UInt8) : Int :=
 if 48 ≤ c.toNat ∧ c.toNat ≤ 57 then c.toNat - 48 else if 97 ≤ c.toNat ∧ c.toNat ≤ 102 then c.toNat - 87 else if 65 ≤ c.toNat ∧ c.toNat ≤ 70 then c.toNat - 55 else -1
theorem dig_bnd (c : UInt8) : -1 ≤ dig c ∧ dig c ≤ 15 := by
 unfold dig
 repeat' split
 all_goals omega
def HEX : List UInt8 := [48, 49, 50, 51, 52, 53, 54, 55, 56, 57, 97, 98, 99, 100, 101, 102]
theorem fin_byte {p : UInt8 → Prop} (h : ∀ k : Fin 256, p (UInt8.ofNat k.val)) (c : UInt8) : p c := by
 have := h ⟨c.toNat, c.toNat_lt⟩
 simpa using this
theorem dig_up : ∀ k : Fin 256, 65 ≤ (UInt8.ofNat k.val).toNat → (UInt8.ofNat k.val).toNat ≤ 70 → Lib.indexByte HEX (((UInt8.ofNat k.val).toNat : Int) + 32).toNat.toUInt8 = dig (UInt8.ofNat k.val) := by decide +kernel
theorem dig_lo : ∀ k : Fin 256, ¬ (65 ≤ (UInt8.ofNat k.val).toNat ∧ (UInt8.ofNat k.val).toNat ≤ 70) → Lib.indexByte HEX ((UInt8.ofNat k.val).toNat : Int).toNat.toUInt8 = dig (UInt8.ofNat k.val) := by decide +kernel
theorem dig_upper (c : UInt8) (h1 : 65 ≤ c.toNat) (h2 : c.toNat ≤ 70) : Lib.indexByte HEX ((c.toNat : Int) + 32).toNat.toUInt8 = dig c := fin_byte (p := fun c => 65 ≤ c.toNat → c.toNat ≤ 70 → Lib.indexByte HEX ((c.toNat : Int) + 32).toNat.toUInt8 = dig c) dig_up c h1 h2
theorem dig_lower (c : UInt8) (h : ¬ (65 ≤ c.toNat ∧ c.toNat ≤ 70)) : Lib.indexByte HEX (c.toNat : Int).toNat.toUInt8 = dig c := fin_byte (p := fun c => ¬ (65 ≤ c.toNat ∧ c.toNat ≤ 70) → Lib.indexByte HEX (c.toNat : Int).toNat.toUInt8 = dig c) dig_lo c h
def decB (h l : Int) : UInt8 := Utf.toB (Utf.orI (h * 16) l)
def dec (l : List UInt8) : List UInt8 :=
 match l with
 | [] => []
 | c :: r => if c = 37 ∧ 2 ≤ r.length ∧ 0 ≤ dig (r.getD 0 0) ∧ 0 ≤ dig (r.getD 1 0) then decB (dig (r.getD 0 0)) (dig (r.getD 1 0)) :: dec (r.drop 2) else c :: dec r
termination_by l.length
decreasing_by all_goals (simp; try omega)
theorem dec_nil : dec [] = [] := by rw [dec]
theorem dec_len : ∀ (n : Nat) (l : List UInt8), l.length ≤ n → (dec l).length ≤ l.length := by
 intro n
 induction n with
 | zero => intro l h; rw [List.eq_nil_of_length_eq_zero (by omega : l.length = 0), dec]; simp
 | succ n ih =>
  intro l h
  cases l with
  | nil => rw [dec]; simp
  | cons c r =>
   rw [dec]
   simp only [List.length_cons] at h
   split
   ·have := ih (r.drop 2) (by simp; omega)
    simp at this ⊢; omega
   ·have := ih r (by omega)
    simp at this ⊢; omega
theorem dec_step {s : List UInt8} {i : Nat} (hi : i < s.length) : dec (s.drop i) = if s[i] = 37 ∧ i + 2 < s.length ∧ 0 ≤ dig (s.getD (i + 1) 0) ∧ 0 ≤ dig (s.getD (i + 2) 0) then decB (dig (s.getD (i + 1) 0)) (dig (s.getD (i + 2) 0)) :: dec (s.drop (i + 3)) else s[i] :: dec (s.drop (i + 1)) := by
 rw [List.drop_eq_getElem_cons hi, dec]
 have e1 : (s.drop (i + 1)).getD 0 0 = s.getD (i + 1) 0 := by simp [xgD]
 have e2 : (s.drop (i + 1)).getD 1 0 = s.getD (i + 2) 0 := by simp [xgD]
 have e3 : 2 ≤ (s.drop (i + 1)).length ↔ i + 2 < s.length := by simp; omega
 rw [e1, e2, List.drop_drop]
 simp only [e3]
def ctl (c : UInt8) : Bool := decide (c.toNat < 32 ∨ 126 < c.toNat)
def hexU : List UInt8 := [48, 49, 50, 51, 52, 53, 54, 55, 56, 57, 65, 66, 67, 68, 69, 70]
def enc1 (c : UInt8) : List UInt8 := if ctl c = true then [37, hexU.getD (c.toNat / 16) 0, hexU.getD (c.toNat % 16) 0] else [c]
def enc (b : List UInt8) : List UInt8 := b.flatMap enc1
theorem enc_take {b : List UInt8} {i : Nat} (h : i < b.length) : enc (b.take (i + 1)) = enc (b.take i) ++ enc1 b[i] := by
 rw [List.take_succ_eq_append_getElem h]; unfold enc; rw [List.flatMap_append]; simp
theorem enc1_len (c : UInt8) : (enc1 c).length ≤ 3 := by unfold enc1; split <;> simp
theorem enc_len (b : List UInt8) : (enc b).length ≤ 3 * b.length := by
 induction b with
 | nil => simp [enc]
 | cons c b ih =>
  have := enc1_len c
  unfold enc at ih ⊢
  rw [List.flatMap_cons, List.length_append, List.length_cons]
  omega
theorem wrap_small {n : Int} (h0 : 0 ≤ n) (h1 : n < 4611686018427387904) : IntKind.i64.wrap n = n := by
 unfold IntKind.wrap
 simp [IntKind.bits, IntKind.signed]
 omega
theorem ofInt_toNat (a : Nat) (ha : a < 4611686018427387904) : (BitVec.ofInt 64 (a : Int)).toNat = a := by
 rw [BitVec.toNat_ofInt]
 omega
theorem orI_nat {a b : Nat} (ha : a < 4611686018427387904) (hb : b < 4611686018427387904) : Utf.orI a b = ((a ||| b : Nat) : Int) := by
 unfold Utf.orI
 rw [BitVec.toNat_or, ofInt_toNat a ha, ofInt_toNat b hb]
 have h := Nat.or_lt_two_pow (n := 62) (x := a) (y := b) (by omega) (by omega)
 exact wrap_small (by omega) (by omega)
theorem andI_nat {a b : Nat} (ha : a < 4611686018427387904) (hb : b < 4611686018427387904) : Utf.andI a b = ((a &&& b : Nat) : Int) := by
 unfold Utf.andI
 rw [BitVec.toNat_and, ofInt_toNat a ha, ofInt_toNat b hb]
 have h : a &&& b ≤ a := Nat.and_le_left
 exact wrap_small (by omega) (by omega)
theorem orI_add {a b : Int} (k : Nat) (hk : k ≤ 61) (ha : 0 ≤ a) (ha2 : a * 2 ^ k < 4611686018427387904) (hb : 0 ≤ b) (hb2 : b < 2 ^ k) : Utf.orI (a * 2 ^ k) b = a * 2 ^ k + b := by
 obtain ⟨x, rfl⟩ := Int.eq_ofNat_of_zero_le ha
 obtain ⟨y, rfl⟩ := Int.eq_ofNat_of_zero_le hb
 have hy : y < 2 ^ k := by exact_mod_cast hb2
 have e : ((x : Int) * 2 ^ k) = ((x * 2 ^ k : Nat) : Int) := by push_cast; rfl
 rw [e] at ha2
 have hx : x * 2 ^ k < 4611686018427387904 := by omega
 have hp2 : 2 ^ k ≤ 2 ^ 61 := Nat.pow_le_pow_right (by omega) hk
 have hy2 : y < 4611686018427387904 := by omega
 rw [e]
 rw [orI_nat hx hy2, ← Nat.shiftLeft_eq, ← Nat.shiftLeft_add_eq_or_of_lt hy, Nat.shiftLeft_eq]
 push_cast; rfl
theorem andI_mod {a : Int} (k : Nat) (hk : k ≤ 61) (ha : 0 ≤ a) (ha2 : a < 4611686018427387904) {m : Int} (hm : m = 2 ^ k - 1) : Utf.andI a m = a % 2 ^ k := by
 obtain ⟨x, rfl⟩ := Int.eq_ofNat_of_zero_le ha
 have hp : 0 < 2 ^ k := Nat.two_pow_pos k
 have hp2 : 2 ^ k ≤ 2 ^ 61 := Nat.pow_le_pow_right (by omega) hk
 have e : m = ((2 ^ k - 1 : Nat) : Int) := by rw [hm, Int.natCast_sub hp]; push_cast; rfl
 rw [e, andI_nat (by omega) (by simp at hp2 ⊢; omega), Nat.and_two_pow_sub_one_eq_mod]
 push_cast; rfl
theorem or64 {c d : Int} (h0 : 0 ≤ c) (h1 : c < 16777216) (h2 : 0 ≤ d) (h3 : d < 64) : Utf.orI (c * 64) d = c * 64 + d := orI_add 6 (by omega) h0 (by omega) h2 (by omega)
theorem or256 {c d : Int} (h0 : 0 ≤ c) (h1 : c < 281474976710656) (h2 : 0 ≤ d) (h3 : d < 256) : Utf.orI (c * 256) d = c * 256 + d := orI_add 8 (by omega) h0 (by omega) h2 (by omega)
theorem and_63 {c : Int} (h0 : 0 ≤ c) (h1 : c < 16777216) : Utf.andI c 63 = c % 64 := andI_mod 6 (by omega) h0 (by omega) rfl
theorem and_31 {c : Int} (h0 : 0 ≤ c) (h1 : c < 16777216) : Utf.andI c 31 = c % 32 := andI_mod 5 (by omega) h0 (by omega) rfl
theorem and_15 {c : Int} (h0 : 0 ≤ c) (h1 : c < 16777216) : Utf.andI c 15 = c % 16 := andI_mod 4 (by omega) h0 (by omega) rfl
theorem and_7 {c : Int} (h0 : 0 ≤ c) (h1 : c < 16777216) : Utf.andI c 7 = c % 8 := andI_mod 3 (by omega) h0 (by omega) rfl
def lead (x : Int) : Int × Int × Int :=
 if x < 128 then (0, 0, 0) else if 194 ≤ x ∧ x ≤ 223 then (1, 128, 191) else if x = 224 then (2, 160, 191) else if x = 237 then (2, 128, 159)
 else if 225 ≤ x ∧ x ≤ 239 then (2, 128, 191) else if x = 240 then (3, 144, 191) else if x = 244 then (3, 128, 143) else if 241 ≤ x ∧ x ≤ 243 then (3, 128, 191) else (-1, 0, 0)
def cont (b : List UInt8) : Nat → Nat → Int → Int → Int → Int × Nat
 | 0, i, _, _, c => (c, i)
 | k + 1, i, lo, hi, c => if i < b.length ∧ lo ≤ (b.getD i 0).toNat ∧ ((b.getD i 0).toNat : Int) ≤ hi then cont b k (i + 1) 128 191 (c * 64 + ((b.getD i 0).toNat : Int) % 64) else (65533, i)
theorem cont_bnd (b : List UInt8) : ∀ (k i : Nat) (lo hi c : Int), i ≤ (cont b k i lo hi c).2 ∧ (cont b k i lo hi c).2 ≤ i + k := by
 intro k
 induction k with
 | zero => intro i lo hi c; simp [cont]
 | succ k ih =>
  intro i lo hi c
  unfold cont
  split
  ·have := ih (i + 1) 128 191 (c * 64 + ((b.getD i 0).toNat : Int) % 64); omega
  ·simp only; omega
theorem cont_step {b : List UInt8} {m i : Nat} (h : i ≤ m) (lo hi c : Int) : cont b (m + 1 - i) i lo hi c = if i < b.length ∧ lo ≤ (b.getD i 0).toNat ∧ ((b.getD i 0).toNat : Int) ≤ hi then cont b (m + 1 - (i + 1)) (i + 1) 128 191 (c * 64 + ((b.getD i 0).toNat : Int) % 64) else (65533, i) := by
 obtain ⟨k, hk⟩ : ∃ k, m + 1 - i = k + 1 := ⟨m - i, by omega⟩
 rw [hk, show m + 1 - (i + 1) = k by omega, cont]
theorem cont_end {b : List UInt8} {m : Nat} (lo hi c : Int) : cont b (m + 1 - (m + 1)) (m + 1) lo hi c = (c, m + 1) := by rw [Nat.sub_self, cont]
theorem lead_cases (x : Int) : lead x = (-1, 0, 0) ∨ lead x = (0, 0, 0) ∨ ∃ lo hi : Nat, lo < 256 ∧ hi < 256 ∧ (lead x = (1, (lo : Int), (hi : Int)) ∨ lead x = (2, (lo : Int), (hi : Int)) ∨ lead x = (3, (lo : Int), (hi : Int))) := by
 unfold lead
 split
 ·exact .inr (.inl rfl)
 split
 ·exact .inr (.inr ⟨128, 191, by omega, by omega, .inl rfl⟩)
 split
 ·exact .inr (.inr ⟨160, 191, by omega, by omega, .inr (.inl rfl)⟩)
 split
 ·exact .inr (.inr ⟨128, 159, by omega, by omega, .inr (.inl rfl)⟩)
 split
 ·exact .inr (.inr ⟨128, 191, by omega, by omega, .inr (.inl rfl)⟩)
 split
 ·exact .inr (.inr ⟨144, 191, by omega, by omega, .inr (.inr rfl)⟩)
 split
 ·exact .inr (.inr ⟨128, 143, by omega, by omega, .inr (.inr rfl)⟩)
 split
 ·exact .inr (.inr ⟨128, 191, by omega, by omega, .inr (.inr rfl)⟩)
 ·exact .inl rfl
def nx (b : List UInt8) : Int × Nat :=
 let x : Int := (b.getD 0 0).toNat
 let l := lead x
 if l.1 < 0 then (65533, 1) else if l.1 = 0 then (x, 1) else cont b l.1.toNat 1 l.2.1 l.2.2 (x % (if l.1 = 1 then 32 else if l.1 = 2 then 16 else 8))
theorem nx_pos (b : List UInt8) : 1 ≤ (nx b).2 := by
 unfold nx
 simp only
 split
 ·simp
 ·split
  ·simp
  ·exact (cont_bnd b _ 1 _ _ _).1
theorem cont_le (b : List UInt8) : ∀ (k i : Nat) (lo hi c : Int), i ≤ b.length → (cont b k i lo hi c).2 ≤ b.length := by
 intro k
 induction k with
 | zero => intro i lo hi c h; simpa [cont] using h
 | succ k ih =>
  intro i lo hi c h
  unfold cont
  split
  ·rename_i hc; exact ih (i + 1) 128 191 _ (by omega)
  ·exact h
theorem nx_le (b : List UInt8) (h : 0 < b.length) : (nx b).2 ≤ b.length := by
 unfold nx
 simp only
 split
 ·exact h
 ·split
  ·exact h
  ·exact cont_le b _ 1 _ _ _ h
def lossy (b : List UInt8) : List Int :=
 if h : b = [] then [] else (nx b).1 :: lossy (b.drop (nx b).2)
termination_by b.length
decreasing_by
 have h1 := nx_pos b
 have h2 : 0 < b.length := List.length_pos_iff.2 h
 simp only [List.length_drop]
 omega
theorem lossy_nil : lossy [] = [] := by rw [lossy]; simp
theorem lossy_cons {b : List UInt8} (h : 0 < b.length) : lossy b = (nx b).1 :: lossy (b.drop (nx b).2) := by
 rw [lossy, dif_neg (List.length_pos_iff.1 h)]
theorem lossy_len : ∀ (n : Nat) (b : List UInt8), b.length ≤ n → (lossy b).length ≤ b.length := by
 intro n
 induction n with
 | zero => intro b h; rw [List.eq_nil_of_length_eq_zero (by omega : b.length = 0), lossy_nil]; simp
 | succ n ih =>
  intro b h
  by_cases h0 : b.length = 0
  ·rw [List.eq_nil_of_length_eq_zero h0, lossy_nil]; simp
  ·rw [lossy_cons (by omega)]
   have h1 := nx_pos b
   have := ih (b.drop (nx b).2) (by simp; omega)
   simp at this ⊢; omega
end Ho
/- Walks: signs as digits, texts with percent signs. -/
set_option linter.unusedVariables false
set_option linter.unusedSimpArgs false
namespace Go.Proofs
open Go.Lv
namespace Hs
open Pu Ut Utf
variable {H : Heap}
theorem indexByte_we (s : List UInt8) (n : Int) {Q : K (AV → Heap → Prop)} : @rF Tryz.prog cfg 37 [.str s, .v (.int .u8 n)] H Q = Q.v (.i (Lib.indexByte s n.toNat.toUInt8)) H :=
 rF_eq (WF.ext (by rfl) (by rfl) ⟨rfl, rfl⟩)
theorem indexByte_be (s : List UInt8) (c : UInt8) {Q : K (AV → Heap → Prop)} : @rF Tryz.prog cfg 37 [.str s, byteA c] H Q = Q.v (.i (Lib.indexByte s (c.toNat : Int).toNat.toUInt8)) H := indexByte_we s c.toNat
theorem pdigit_w (c : UInt8) : WF Tryz.prog cfg 61 [byteA c] H (fun r H' => r = .i (Ho.dig c) ∧ H' = H) := by
 have hm : ∀ d, cfg.muF 61 d = (false) := fun _ => rfl
 have hz : ∀ d, cfg.fzF 61 d = (false) := fun _ => rfl
 have ht : ∀ d, cfg.tkF 61 d = (false) := fun _ => rfl
 have hr_ : ∀ g, cfg.raw g = (g == 152 || g == 118) := fun _ => rfl
 refine rF_fn rfl rfl Tryz.func61 rfl ?_
 by_cases h : 65 ≤ c.toNat ∧ c.toNat ≤ 70
 ·obtain ⟨h1, h2⟩ := h
  repeat' first|simp (disch:=first|omega|assumption|decide) only[go_sem,hm,hz,ht,hr_,indexByte_we,indexByte_be]|(apply ifP_in<;>intro)
  exact congrArg AV.i (Ho.dig_upper c h1 h2)
 ·repeat' first|simp (disch:=first|omega|assumption|decide) only[go_sem,hm,hz,ht,hr_,indexByte_we,indexByte_be]|(apply ifP_in<;>intro)
  all_goals exact congrArg AV.i (Ho.dig_lower c h)
theorem idigit_w (c : UInt8) : WF Tryz.prog cfg 96 [byteA c] H (fun r H' => r = .i (Ho.dig c) ∧ H' = H) := by
 have hm : ∀ d, cfg.muF 96 d = (false) := fun _ => rfl
 have hz : ∀ d, cfg.fzF 96 d = (false) := fun _ => rfl
 have ht : ∀ d, cfg.tkF 96 d = (false) := fun _ => rfl
 have hr_ : ∀ g, cfg.raw g = (g == 152 || g == 118) := fun _ => rfl
 refine rF_fn rfl rfl Tryz.func96 rfl ?_
 by_cases h : 65 ≤ c.toNat ∧ c.toNat ≤ 70
 ·obtain ⟨h1, h2⟩ := h
  repeat' first|simp (disch:=first|omega|assumption|decide) only[go_sem,hm,hz,ht,hr_,indexByte_we,indexByte_be]|(apply ifP_in<;>intro)
  exact congrArg AV.i (Ho.dig_upper c h1 h2)
 ·repeat' first|simp (disch:=first|omega|assumption|decide) only[go_sem,hm,hz,ht,hr_,indexByte_we,indexByte_be]|(apply ifP_in<;>intro)
  all_goals exact congrArg AV.i (Ho.dig_lower c h)
theorem pdigit_e (c : UInt8) {Q : K (AV → Heap → Prop)} : @rF Tryz.prog cfg 61 [byteA c] H Q = Q.v (.i (Ho.dig c)) H := rF_eq (pdigit_w c)
theorem idigit_e (c : UInt8) {Q : K (AV → Heap → Prop)} : @rF Tryz.prog cfg 96 [byteA c] H Q = Q.v (.i (Ho.dig c)) H := rF_eq (idigit_w c)
end Hs
end Go.Proofs
/- Walks: texts with percent signs. -/
set_option linter.unusedVariables false
set_option linter.unusedSimpArgs false
namespace Go.Proofs
open Go.Lv
namespace Hs
open Pu Ut Utf
variable {H : Heap}
theorem ix_off {s : List UInt8} {i k : Nat} (h : i + k < s.length) : ix s ((i : Int) + (k : Int)) = s.getD (i + k) 0 := by
 have : ((i : Int) + (k : Int)).toNat = i + k := by omega
 simp only [ix, this, xgD, xgE h]; rfl
theorem dec_b (s : List UInt8) (hs : s.length ≤ 1000000) : WF Tryz.prog cfg 33 [.str s] H (fun r H' => r = .sl ((Ho.dec s).map byteA) ∧ H' = H) := by
 have hm : ∀ d, cfg.muF 33 d = (false) := fun _ => rfl
 have hz : ∀ d, cfg.fzF 33 d = (false) := fun _ => rfl
 have ht : ∀ d, cfg.tkF 33 d = (false) := fun _ => rfl
 have hr_ : ∀ g, cfg.raw g = (g == 152 || g == 118) := fun _ => rfl
 refine rF_fn rfl rfl Tryz.func33 rfl ?_
 repeat' first|simp (disch:=first|omega|assumption|decide) only[go_sem,hm,hz,ht,hr_]|(apply ifP_in<;>intro)
 have hdl := Ho.dec_len _ s (Nat.le_refl _)
 obtain ⟨D, hD⟩ : ∃ D, D = Ho.dec s := ⟨_, rfl⟩
 rw [← hD] at hdl ⊢
 refine rL_loop (σ := List UInt8 × Nat) (fun z e H' => H' = H ∧ e 0 = .str s ∧ e 4 = .i z.2 ∧ e 3 = .sl (z.1.map byteA) ∧ z.2 ≤ s.length ∧ D = z.1 ++ Ho.dec (s.drop z.2)) (fun z => s.length - z.2) ([], 0) ?_ ?_
 ·refine ⟨rfl, ?_, ?_, ?_, by simp, by simp [hD]⟩
  all_goals first | (simp (disch := first | assumption | omega) only [go_sem]; done) | (simp (disch := first | assumption | omega) only [go_sem]; rfl)
 ·rintro ⟨o, i⟩ e H' ⟨rfl, g0, g4, g3, i1, hd⟩
  simp only at g0 g4 g3 i1 hd
  have hol : o.length ≤ 1000000 := by have := congrArg List.length hd; rw [List.length_append] at this; omega
  by_cases hi : i < s.length
  ·have hix := ix_at hi
   have hst := Ho.dec_step hi
   by_cases h37 : s[i] = 37
   ·by_cases h2 : i + 2 < s.length
    ·have h1 := ix_off (k := 1) (show i + 1 < s.length by omega)
     have h2' := ix_off (k := 2) h2
     simp only [Int.natCast_one, Int.cast_ofNat_Int] at h1 h2'
     generalize s.getD (i + 1) 0 = a at *
     generalize s.getD (i + 2) 0 = b at *
     have ha := Ho.dig_bnd a
     have hb := Ho.dig_bnd b
     have hno : ¬ (s[i] = 37 ∧ i + 2 < s.length ∧ 0 ≤ Ho.dig a ∧ 0 ≤ Ho.dig b) → D = (o ++ [37]) ++ Ho.dec (s.drop (i + 1)) := fun hn => by rw [hd, hst, if_neg hn, h37]; simp
     repeat' first|simp (disch:=first|omega|assumption|decide) only[go_sem,hm,hz,ht,hr_,g0,g4,g3,hix,h37,pdigit_e,h1,h2',bin_orI,wrapB]|(apply ifP_in<;>intro)
     ·refine ⟨(o ++ [Ho.decB (Ho.dig a) (Ho.dig b)], i + 3), ⟨congrArg AV.i (by simp only; omega), rfl, by simp only; omega, ?_⟩, by simp only; omega⟩
      rw [hd, hst, if_pos ⟨h37, h2, by assumption, by assumption⟩]; simp
     ·exact ⟨(o ++ [37], i + 1), ⟨rfl, rfl, by simp only; omega, hno (by omega)⟩, by simp only; omega⟩
     ·exact ⟨(o ++ [37], i + 1), ⟨rfl, rfl, by simp only; omega, hno (by omega)⟩, by simp only; omega⟩
    ·rw [if_neg (fun h => h2 h.2.1), h37] at hst
     repeat' first|simp (disch:=first|omega|assumption|decide) only[go_sem,hm,hz,ht,hr_,g0,g4,g3,hix,h37]|(apply ifP_in<;>intro)
     exact ⟨(o ++ [37], i + 1), ⟨rfl, rfl, by simp only; omega, by rw [hd, hst]; simp⟩, by simp only; omega⟩
   ·rw [if_neg (fun h => h37 h.1)] at hst
    have h37n : ¬ s[i].toNat = 37 := fun h => h37 (UInt8.toNat.inj h)
    generalize s[i] = x at *
    have h37i : ¬ ((x.toNat : Int) = 37) := by omega
    repeat' first|simp (disch:=first|omega|assumption|decide) only[go_sem,hm,hz,ht,hr_,g0,g4,g3,hix]|(apply ifP_in<;>intro)
    exact ⟨(o ++ [x], i + 1), ⟨rfl, rfl, by simp only; omega, by rw [hd, hst]; simp⟩, by simp only; omega⟩
  ·have : i = s.length := by omega
   subst this
   rw [List.drop_length, Ho.dec_nil, List.append_nil] at hd
   subst hd
   repeat' first|simp (disch:=first|omega|assumption|decide) only[go_sem,hm,hz,ht,hr_,g0,g4,g3]|(apply ifP_in<;>intro)
end Hs
end Go.Proofs
/- Walks: bytes as texts with percent signs. -/
set_option linter.unusedVariables false
set_option linter.unusedSimpArgs false
namespace Go.Proofs
open Go.Lv
namespace Hs
open Pu Ut Utf
variable {H : Heap}
theorem and15_fin : ∀ k : Fin 256, IntKind.u8.wrap ((BitVec.ofInt IntKind.u8.bits ((UInt8.ofNat k.val).toNat : Int) &&& BitVec.ofInt IntKind.u8.bits 15).toNat : Int) = ((UInt8.ofNat k.val).toNat : Int) % 16 := by decide +kernel
theorem bin_and15 {P : Program} {t : TypeId} (c : UInt8) : bin P .and t (.v (.int .u8 c.toNat)) (.v (.int .u8 15)) = some (.v (.int .u8 ((c.toNat : Int) % 16))) :=
 congrArg (fun x => some (AV.v (.int .u8 x))) (Ho.fin_byte (p := fun c => IntKind.u8.wrap ((BitVec.ofInt IntKind.u8.bits (c.toNat : Int) &&& BitVec.ofInt IntKind.u8.bits 15).toNat : Int) = (c.toNat : Int) % 16) and15_fin c)
theorem more_w : WF Tryz.prog cfg 67 [.i 1] H (fun r H' => r = .str [] ∧ H' = H) := by
 have hm : ∀ d, cfg.muF 67 d = (false) := fun _ => rfl
 have hz : ∀ d, cfg.fzF 67 d = (false) := fun _ => rfl
 have ht : ∀ d, cfg.tkF 67 d = (false) := fun _ => rfl
 have hr_ : ∀ g, cfg.raw g = (g == 152 || g == 118) := fun _ => rfl
 refine rF_fn rfl rfl Tryz.func67 rfl ?_
 repeat' first|simp (disch:=first|omega|assumption|decide) only[go_sem,hm,hz,ht,hr_]|(apply ifP_in<;>intro)
theorem more_e {Q : K (AV → Heap → Prop)} : @rF Tryz.prog cfg 67 [.i 1] H Q = Q.v (.str []) H := rF_eq more_w
theorem in_w (c : UInt8) : WF Tryz.prog cfg 38 [.i 1, byteA c] H (fun r H' => r = .b (Ho.ctl c) ∧ H' = H) := by
 have hm : ∀ d, cfg.muF 38 d = (false) := fun _ => rfl
 have hz : ∀ d, cfg.fzF 38 d = (false) := fun _ => rfl
 have ht : ∀ d, cfg.tkF 38 d = (false) := fun _ => rfl
 have hr_ : ∀ g, cfg.raw g = (g == 152 || g == 118) := fun _ => rfl
 refine rF_fn rfl rfl Tryz.func38 rfl ?_
 have hi : ∀ x, Lib.indexByte [] x = -1 := fun _ => rfl
 by_cases hc : c.toNat < 32 ∨ 126 < c.toNat
 ·have hb : Ho.ctl c = true := by unfold Ho.ctl; exact decide_eq_true hc
  rw [hb]
  rcases hc with hc | hc
  ·repeat' first|simp (disch:=first|omega|assumption|decide) only[go_sem,hm,hz,ht,hr_,more_e,indexByte_be,hi]|(apply ifP_in<;>intro)
  ·repeat' first|simp (disch:=first|omega|assumption|decide) only[go_sem,hm,hz,ht,hr_,more_e,indexByte_be,hi]|(apply ifP_in<;>intro)
 ·have hb : Ho.ctl c = false := by unfold Ho.ctl; exact decide_eq_false hc
  rw [hb]
  repeat' first|simp (disch:=first|omega|assumption|decide) only[go_sem,hm,hz,ht,hr_,more_e,indexByte_be,hi]|(apply ifP_in<;>intro)
theorem in_we (c : UInt8) {Q : K (AV → Heap → Prop)} : @rF Tryz.prog cfg 38 [.i 1, byteA c] H Q = Q.v (.b (Ho.ctl c)) H := rF_eq (in_w c)
theorem enc_w (b : List UInt8) (hb : b.length ≤ 1000000) : WF Tryz.prog cfg 21 [.i 1, .sl (b.map byteA)] H (fun r H' => r = .str (Ho.enc b) ∧ H' = H) := by
 have hm : ∀ d, cfg.muF 21 d = (false) := fun _ => rfl
 have hz : ∀ d, cfg.fzF 21 d = (false) := fun _ => rfl
 have ht : ∀ d, cfg.tkF 21 d = (false) := fun _ => rfl
 have hr_ : ∀ g, cfg.raw g = (g == 152 || g == 118) := fun _ => rfl
 refine rF_fn rfl rfl Tryz.func21 rfl ?_
 repeat' first|simp (disch:=first|omega|assumption|decide) only[go_sem,hm,hz,ht,hr_]|(apply ifP_in<;>intro)
 refine rL_loop (σ := Nat) (fun i e H' => H' = H ∧ e 0 = .i 1 ∧ e 8 = .sl (b.map byteA) ∧ e 9 = .i b.length ∧ e 10 = .i i ∧ e 5 = .sl ((Ho.enc (b.take i)).map byteA) ∧ i ≤ b.length) (fun i => b.length - i) 0 ?_ ?_
 ·refine ⟨rfl, ?_, ?_, ?_, ?_, ?_, by omega⟩
  all_goals first | (simp (disch := first | assumption | omega) only [go_sem]; done) | (simp (disch := first | assumption | omega) only [go_sem]; rfl)
 ·rintro i e H' ⟨rfl, g0, g8, g9, g10, g5, i1⟩
  by_cases hi : i < b.length
  ·have hix := ix_at hi
   have htk := Ho.enc_take hi
   have hel := Ho.enc_len (b.take i)
   have hel2 : (b.take i).length ≤ i := by simp; omega
   generalize b[i] = c at *
   generalize Ho.enc (b.take i) = o at *
   have hcb : c.toNat < 256 := c.toNat_lt
   cases hct : Ho.ctl c with
   | true =>
    have hA : ((c.toNat : Int) / 16) < (([48, 49, 50, 51, 52, 53, 54, 55, 56, 57, 65, 66, 67, 68, 69, 70] : List UInt8).length : Nat) := by simp; omega
    have hB : ((c.toNat : Int) % 16) < (([48, 49, 50, 51, 52, 53, 54, 55, 56, 57, 65, 66, 67, 68, 69, 70] : List UInt8).length : Nat) := by simp; omega
    repeat' first|simp (disch:=first|omega|assumption|decide) only[go_sem,hm,hz,ht,hr_,g0,g8,g9,g10,g5,hix,in_we,hct,bin_and15]|(apply ifP_in<;>intro)
    have e1 : ix ([48, 49, 50, 51, 52, 53, 54, 55, 56, 57, 65, 66, 67, 68, 69, 70] : List UInt8) ((c.toNat : Int) / 16) = Ho.hexU.getD (c.toNat / 16) 0 := by unfold ix; rw [show ((c.toNat : Int) / 16).toNat = c.toNat / 16 by omega]; rfl
    have e2 : ix ([48, 49, 50, 51, 52, 53, 54, 55, 56, 57, 65, 66, 67, 68, 69, 70] : List UInt8) ((c.toNat : Int) % 16) = Ho.hexU.getD (c.toNat % 16) 0 := by unfold ix; rw [show ((c.toNat : Int) % 16).toNat = c.toNat % 16 by omega]; rfl
    have he : Ho.enc1 c = [37, Ho.hexU.getD (c.toNat / 16) 0, Ho.hexU.getD (c.toNat % 16) 0] := by unfold Ho.enc1; rw [if_pos hct]
    rw [e1, e2, show AV.v (.int .u8 37) = byteA 37 from rfl, three_map, append_map]
    simp only [List.length_cons, List.length_nil]
    rw [← he, ← htk]
    repeat' first|simp (disch:=first|omega|assumption|decide) only[go_sem,hm,hz,ht,hr_,g0,g8,g9,g10,g5,hix]|(apply ifP_in<;>intro)
    exact ⟨i + 1, ⟨rfl, rfl, by omega⟩, by omega⟩
   | false =>
    have he : Ho.enc1 c = [c] := by unfold Ho.enc1; rw [if_neg (by simp [hct])]
    rw [he] at htk
    repeat' first|simp (disch:=first|omega|assumption|decide) only[go_sem,hm,hz,ht,hr_,g0,g8,g9,g10,g5,hix,in_we,hct]|(apply ifP_in<;>intro)
    exact ⟨i + 1, ⟨rfl, by rw [htk], by omega⟩, by omega⟩
  ·have : i = b.length := by omega
   subst this
   rw [List.take_length] at g5
   repeat' first|simp (disch:=first|omega|assumption|decide) only[go_sem,hm,hz,ht,hr_,g0,g8,g9,g10,g5]|(apply ifP_in<;>intro)
end Hs
end Go.Proofs
/- Walks: signs out of bytes. -/
set_option linter.unusedVariables false
set_option linter.unusedSimpArgs false
namespace Go.Proofs
open Go.Lv
namespace Hs
open Pu Ut Utf
variable {H : Heap}
theorem lead_w (c : UInt8) : WF Tryz.prog cfg 95 [byteA c] H (fun r H' => r = .tup [.i (Ho.lead c.toNat).1, .v (.int .u8 (Ho.lead c.toNat).2.1), .v (.int .u8 (Ho.lead c.toNat).2.2)] ∧ H' = H) := by
 have hm : ∀ d, cfg.muF 95 d = (false) := fun _ => rfl
 have hz : ∀ d, cfg.fzF 95 d = (false) := fun _ => rfl
 have ht : ∀ d, cfg.tkF 95 d = (false) := fun _ => rfl
 have hr_ : ∀ g, cfg.raw g = (g == 152 || g == 118) := fun _ => rfl
 refine rF_fn rfl rfl Tryz.func95 rfl ?_
 have hcb : c.toNat < 256 := c.toNat_lt
 repeat' first|simp (disch:=first|omega|assumption|decide) only[go_sem,hm,hz,ht,hr_]|(apply ifP_in<;>intro)
 all_goals
  unfold Ho.lead
  repeat' first | rw [if_pos (by omega)] | rw [if_neg (by omega)]
theorem lead_e (c : UInt8) {Q : K (AV → Heap → Prop)} : @rF Tryz.prog cfg 95 [byteA c] H Q = Q.v (.tup [.i (Ho.lead c.toNat).1, .v (.int .u8 (Ho.lead c.toNat).2.1), .v (.int .u8 (Ho.lead c.toNat).2.2)]) H := rF_eq (lead_w c)
theorem ix_get {b : List UInt8} {i : Nat} (h : i < b.length) : ix b (i : Int) = b.getD i 0 := by
 simp only [ix, Int.toNat_natCast, xgD, xgE h]; rfl
theorem next_w (b : List UInt8) (hb : 0 < b.length) (hb2 : b.length ≤ 1000000) : WF Tryz.prog cfg 60 [.sl (b.map byteA)] H (fun r H' => (∃ ok, r = .tup [.i (Ho.nx b).1, .i (Ho.nx b).2, .b ok]) ∧ H' = H) := by
 have hm : ∀ d, cfg.muF 60 d = (false) := fun _ => rfl
 have hz : ∀ d, cfg.fzF 60 d = (false) := fun _ => rfl
 have ht : ∀ d, cfg.tkF 60 d = (false) := fun _ => rfl
 have hr_ : ∀ g, cfg.raw g = (g == 152 || g == 118) := fun _ => rfl
 refine rF_fn rfl rfl Tryz.func60 rfl ?_
 obtain ⟨x, hx⟩ : ∃ x, x = b.getD 0 0 := ⟨_, rfl⟩
 have hix0 : ix b 0 = x := by rw [hx]; exact ix_get (i := 0) hb
 have hxb : x.toNat < 256 := x.toNat_lt
 rcases Ho.lead_cases (x.toNat : Int) with hl | hl | ⟨lo, hi, k1, k2, hl | hl | hl⟩
 ·have hnx : Ho.nx b = (65533, 1) := by unfold Ho.nx; rw [← hx]; simp only [hl]; rfl
  rw [hnx]
  repeat' first|simp (disch:=first|omega|assumption|decide) only[go_sem,hm,hz,ht,hr_,lead_e,hl,hix0]|(apply ifP_in<;>intro)
  exact ⟨_, rfl⟩
 ·have hnx : Ho.nx b = ((x.toNat : Int), 1) := by unfold Ho.nx; rw [← hx]; simp only [hl]; rfl
  rw [hnx]
  repeat' first|simp (disch:=first|omega|assumption|decide) only[go_sem,hm,hz,ht,hr_,lead_e,hl,hix0]|(apply ifP_in<;>intro)
  exact ⟨_, rfl⟩
 ·have hnx : Ho.nx b = Ho.cont b (1 + 1 - 1) 1 lo hi ((x.toNat : Int) % 32) := by unfold Ho.nx; rw [← hx]; simp only [hl]; rfl
  repeat' first|simp (disch:=first|omega|assumption|decide) only[go_sem,hm,hz,ht,hr_,lead_e,hl,hix0,bin_andI,Ho.and_31,Ho.and_15,Ho.and_7]|(apply ifP_in<;>intro)
  refine rL_loop (σ := Nat × Int × Int × Int) (fun z e H' => H' = H ∧ e 0 = .sl (b.map byteA) ∧ e 5 = .i 1 ∧ e 9 = .i z.1 ∧ e 6 = .v (.int .u8 z.2.1) ∧ e 7 = .v (.int .u8 z.2.2.1) ∧ e 8 = .i z.2.2.2 ∧ 1 ≤ z.1 ∧ z.1 ≤ 1 + 1 ∧ z.1 ≤ b.length ∧ 0 ≤ z.2.2.2 ∧ ((z.1 = 1 ∧ z.2.2.2 < 64) ∨ (z.1 = 2 ∧ z.2.2.2 < 4096) ∨ (z.1 = 3 ∧ z.2.2.2 < 262144) ∨ (z.1 = 4 ∧ z.2.2.2 < 16777216)) ∧ Ho.nx b = Ho.cont b (1 + 1 - z.1) z.1 z.2.1 z.2.2.1 z.2.2.2) (fun z => 1 + 1 - z.1) (1, lo, hi, (x.toNat : Int) % 32) ?_ ?_
  ·refine ⟨rfl, ?_, ?_, ?_, ?_, ?_, ?_, by simp, by simp, by simp only; omega, by simp only; omega, .inl ⟨rfl, by simp only; omega⟩, hnx⟩
   all_goals first | (exact congrArg AV.i (Ho.and_31 (by omega) (by omega))) | (simp (disch := first | assumption | omega) only [go_sem]; done) | (simp (disch := first | assumption | omega) only [go_sem]; rfl) | (simp (disch := first | assumption | omega) only [go_sem]; exact congrArg AV.i (Ho.and_31 (by omega) (by omega)))
  ·rintro ⟨i, l, h, c⟩ e H' ⟨rfl, g0, g5, g9, g6, g7, g8, i1, i2, i3, c0, c1, hc⟩
   simp only at g9 g6 g7 g8 i1 i2 i3 c0 c1 hc
   clear hnx
   by_cases hi : i ≤ 1
   ·have hst := Ho.cont_step (b := b) hi l h c
    rw [← hc] at hst
    by_cases hil : i < b.length
    ·have hix := ix_get hil
     generalize b.getD i 0 = y at *
     have hyb : y.toNat < 256 := y.toNat_lt
     have c2 : c < 16777216 := by omega
     by_cases hr : l ≤ (y.toNat : Int) ∧ (y.toNat : Int) ≤ h
     ·obtain ⟨r1, r2⟩ := hr
      rw [if_pos ⟨hil, r1, r2⟩] at hst
      repeat' first|simp (disch:=first|omega|assumption|decide) only[go_sem,hm,hz,ht,hr_,g0,g5,g9,g6,g7,g8,hix,bin_andI,bin_orI,Ho.and_63,Ho.or64]|(apply ifP_in<;>intro)
      exact ⟨(i + 1, 128, 191, c * 64 + (y.toNat : Int) % 64), ⟨rfl, rfl, rfl, rfl, by simp, by simp only; omega, by simp only; omega, by simp only; omega, by simp only; omega, hst⟩, by simp only; omega⟩
     ·rw [if_neg (fun hh => hr hh.2)] at hst
      rw [hst]
      by_cases r1 : l ≤ (y.toNat : Int)
      ·have r2 : ¬ (y.toNat : Int) ≤ h := fun hh => hr ⟨r1, hh⟩
       repeat' first|simp (disch:=first|omega|assumption|decide) only[go_sem,hm,hz,ht,hr_,g0,g5,g9,g6,g7,g8,hix]|(apply ifP_in<;>intro)
       exact ⟨_, rfl⟩
      ·repeat' first|simp (disch:=first|omega|assumption|decide) only[go_sem,hm,hz,ht,hr_,g0,g5,g9,g6,g7,g8,hix]|(apply ifP_in<;>intro)
       exact ⟨_, rfl⟩
    ·rw [if_neg (fun hh => hil hh.1)] at hst
     rw [hst]
     have : i = b.length := by omega
     subst this
     repeat' first|simp (disch:=first|omega|assumption|decide) only[go_sem,hm,hz,ht,hr_,g0,g5,g9,g6,g7,g8]|(apply ifP_in<;>intro)
     exact ⟨_, rfl⟩
   ·have : i = 1 + 1 := by omega
    subst this
    rw [Ho.cont_end] at hc
    rw [hc]
    repeat' first|simp (disch:=first|omega|assumption|decide) only[go_sem,hm,hz,ht,hr_,g0,g5,g9,g6,g7,g8]|(apply ifP_in<;>intro)
    exact ⟨_, rfl⟩
 ·have hnx : Ho.nx b = Ho.cont b (2 + 1 - 1) 1 lo hi ((x.toNat : Int) % 16) := by unfold Ho.nx; rw [← hx]; simp only [hl]; rfl
  repeat' first|simp (disch:=first|omega|assumption|decide) only[go_sem,hm,hz,ht,hr_,lead_e,hl,hix0,bin_andI,Ho.and_31,Ho.and_15,Ho.and_7]|(apply ifP_in<;>intro)
  refine rL_loop (σ := Nat × Int × Int × Int) (fun z e H' => H' = H ∧ e 0 = .sl (b.map byteA) ∧ e 5 = .i 2 ∧ e 9 = .i z.1 ∧ e 6 = .v (.int .u8 z.2.1) ∧ e 7 = .v (.int .u8 z.2.2.1) ∧ e 8 = .i z.2.2.2 ∧ 1 ≤ z.1 ∧ z.1 ≤ 2 + 1 ∧ z.1 ≤ b.length ∧ 0 ≤ z.2.2.2 ∧ ((z.1 = 1 ∧ z.2.2.2 < 64) ∨ (z.1 = 2 ∧ z.2.2.2 < 4096) ∨ (z.1 = 3 ∧ z.2.2.2 < 262144) ∨ (z.1 = 4 ∧ z.2.2.2 < 16777216)) ∧ Ho.nx b = Ho.cont b (2 + 1 - z.1) z.1 z.2.1 z.2.2.1 z.2.2.2) (fun z => 2 + 1 - z.1) (1, lo, hi, (x.toNat : Int) % 16) ?_ ?_
  ·refine ⟨rfl, ?_, ?_, ?_, ?_, ?_, ?_, by simp, by simp, by simp only; omega, by simp only; omega, .inl ⟨rfl, by simp only; omega⟩, hnx⟩
   all_goals first | (exact congrArg AV.i (Ho.and_15 (by omega) (by omega))) | (simp (disch := first | assumption | omega) only [go_sem]; done) | (simp (disch := first | assumption | omega) only [go_sem]; rfl) | (simp (disch := first | assumption | omega) only [go_sem]; exact congrArg AV.i (Ho.and_15 (by omega) (by omega)))
  ·rintro ⟨i, l, h, c⟩ e H' ⟨rfl, g0, g5, g9, g6, g7, g8, i1, i2, i3, c0, c1, hc⟩
   simp only at g9 g6 g7 g8 i1 i2 i3 c0 c1 hc
   clear hnx
   by_cases hi : i ≤ 2
   ·have hst := Ho.cont_step (b := b) hi l h c
    rw [← hc] at hst
    by_cases hil : i < b.length
    ·have hix := ix_get hil
     generalize b.getD i 0 = y at *
     have hyb : y.toNat < 256 := y.toNat_lt
     have c2 : c < 16777216 := by omega
     by_cases hr : l ≤ (y.toNat : Int) ∧ (y.toNat : Int) ≤ h
     ·obtain ⟨r1, r2⟩ := hr
      rw [if_pos ⟨hil, r1, r2⟩] at hst
      repeat' first|simp (disch:=first|omega|assumption|decide) only[go_sem,hm,hz,ht,hr_,g0,g5,g9,g6,g7,g8,hix,bin_andI,bin_orI,Ho.and_63,Ho.or64]|(apply ifP_in<;>intro)
      exact ⟨(i + 1, 128, 191, c * 64 + (y.toNat : Int) % 64), ⟨rfl, rfl, rfl, rfl, by simp, by simp only; omega, by simp only; omega, by simp only; omega, by simp only; omega, hst⟩, by simp only; omega⟩
     ·rw [if_neg (fun hh => hr hh.2)] at hst
      rw [hst]
      by_cases r1 : l ≤ (y.toNat : Int)
      ·have r2 : ¬ (y.toNat : Int) ≤ h := fun hh => hr ⟨r1, hh⟩
       repeat' first|simp (disch:=first|omega|assumption|decide) only[go_sem,hm,hz,ht,hr_,g0,g5,g9,g6,g7,g8,hix]|(apply ifP_in<;>intro)
       exact ⟨_, rfl⟩
      ·repeat' first|simp (disch:=first|omega|assumption|decide) only[go_sem,hm,hz,ht,hr_,g0,g5,g9,g6,g7,g8,hix]|(apply ifP_in<;>intro)
       exact ⟨_, rfl⟩
    ·rw [if_neg (fun hh => hil hh.1)] at hst
     rw [hst]
     have : i = b.length := by omega
     subst this
     repeat' first|simp (disch:=first|omega|assumption|decide) only[go_sem,hm,hz,ht,hr_,g0,g5,g9,g6,g7,g8]|(apply ifP_in<;>intro)
     exact ⟨_, rfl⟩
   ·have : i = 2 + 1 := by omega
    subst this
    rw [Ho.cont_end] at hc
    rw [hc]
    repeat' first|simp (disch:=first|omega|assumption|decide) only[go_sem,hm,hz,ht,hr_,g0,g5,g9,g6,g7,g8]|(apply ifP_in<;>intro)
    exact ⟨_, rfl⟩
 ·have hnx : Ho.nx b = Ho.cont b (3 + 1 - 1) 1 lo hi ((x.toNat : Int) % 8) := by unfold Ho.nx; rw [← hx]; simp only [hl]; rfl
  repeat' first|simp (disch:=first|omega|assumption|decide) only[go_sem,hm,hz,ht,hr_,lead_e,hl,hix0,bin_andI,Ho.and_31,Ho.and_15,Ho.and_7]|(apply ifP_in<;>intro)
  refine rL_loop (σ := Nat × Int × Int × Int) (fun z e H' => H' = H ∧ e 0 = .sl (b.map byteA) ∧ e 5 = .i 3 ∧ e 9 = .i z.1 ∧ e 6 = .v (.int .u8 z.2.1) ∧ e 7 = .v (.int .u8 z.2.2.1) ∧ e 8 = .i z.2.2.2 ∧ 1 ≤ z.1 ∧ z.1 ≤ 3 + 1 ∧ z.1 ≤ b.length ∧ 0 ≤ z.2.2.2 ∧ ((z.1 = 1 ∧ z.2.2.2 < 64) ∨ (z.1 = 2 ∧ z.2.2.2 < 4096) ∨ (z.1 = 3 ∧ z.2.2.2 < 262144) ∨ (z.1 = 4 ∧ z.2.2.2 < 16777216)) ∧ Ho.nx b = Ho.cont b (3 + 1 - z.1) z.1 z.2.1 z.2.2.1 z.2.2.2) (fun z => 3 + 1 - z.1) (1, lo, hi, (x.toNat : Int) % 8) ?_ ?_
  ·refine ⟨rfl, ?_, ?_, ?_, ?_, ?_, ?_, by simp, by simp, by simp only; omega, by simp only; omega, .inl ⟨rfl, by simp only; omega⟩, hnx⟩
   all_goals first | (exact congrArg AV.i (Ho.and_7 (by omega) (by omega))) | (simp (disch := first | assumption | omega) only [go_sem]; done) | (simp (disch := first | assumption | omega) only [go_sem]; rfl) | (simp (disch := first | assumption | omega) only [go_sem]; exact congrArg AV.i (Ho.and_7 (by omega) (by omega)))
  ·rintro ⟨i, l, h, c⟩ e H' ⟨rfl, g0, g5, g9, g6, g7, g8, i1, i2, i3, c0, c1, hc⟩
   simp only at g9 g6 g7 g8 i1 i2 i3 c0 c1 hc
   clear hnx
   by_cases hi : i ≤ 3
   ·have hst := Ho.cont_step (b := b) hi l h c
    rw [← hc] at hst
    by_cases hil : i < b.length
    ·have hix := ix_get hil
     generalize b.getD i 0 = y at *
     have hyb : y.toNat < 256 := y.toNat_lt
     have c2 : c < 16777216 := by omega
     by_cases hr : l ≤ (y.toNat : Int) ∧ (y.toNat : Int) ≤ h
     ·obtain ⟨r1, r2⟩ := hr
      rw [if_pos ⟨hil, r1, r2⟩] at hst
      repeat' first|simp (disch:=first|omega|assumption|decide) only[go_sem,hm,hz,ht,hr_,g0,g5,g9,g6,g7,g8,hix,bin_andI,bin_orI,Ho.and_63,Ho.or64]|(apply ifP_in<;>intro)
      exact ⟨(i + 1, 128, 191, c * 64 + (y.toNat : Int) % 64), ⟨rfl, rfl, rfl, rfl, by simp, by simp only; omega, by simp only; omega, by simp only; omega, by simp only; omega, hst⟩, by simp only; omega⟩
     ·rw [if_neg (fun hh => hr hh.2)] at hst
      rw [hst]
      by_cases r1 : l ≤ (y.toNat : Int)
      ·have r2 : ¬ (y.toNat : Int) ≤ h := fun hh => hr ⟨r1, hh⟩
       repeat' first|simp (disch:=first|omega|assumption|decide) only[go_sem,hm,hz,ht,hr_,g0,g5,g9,g6,g7,g8,hix]|(apply ifP_in<;>intro)
       exact ⟨_, rfl⟩
      ·repeat' first|simp (disch:=first|omega|assumption|decide) only[go_sem,hm,hz,ht,hr_,g0,g5,g9,g6,g7,g8,hix]|(apply ifP_in<;>intro)
       exact ⟨_, rfl⟩
    ·rw [if_neg (fun hh => hil hh.1)] at hst
     rw [hst]
     have : i = b.length := by omega
     subst this
     repeat' first|simp (disch:=first|omega|assumption|decide) only[go_sem,hm,hz,ht,hr_,g0,g5,g9,g6,g7,g8]|(apply ifP_in<;>intro)
     exact ⟨_, rfl⟩
   ·have : i = 3 + 1 := by omega
    subst this
    rw [Ho.cont_end] at hc
    rw [hc]
    repeat' first|simp (disch:=first|omega|assumption|decide) only[go_sem,hm,hz,ht,hr_,g0,g5,g9,g6,g7,g8]|(apply ifP_in<;>intro)
    exact ⟨_, rfl⟩
end Hs
end Go.Proofs
/- Walks: signs out of bytes, as a whole. -/
set_option linter.unusedVariables false
set_option linter.unusedSimpArgs false
namespace Go.Proofs
open Go.Lv
namespace Hs
open Pu Ut Utf
variable {H : Heap}
theorem lossy_w (b : List UInt8) (hb2 : b.length ≤ 1000000) : WF Tryz.prog cfg 32 [.sl (b.map byteA)] H (fun r H' => r = .sl ((Ho.lossy b).map iA) ∧ H' = H) := by
 have hm : ∀ d, cfg.muF 32 d = (false) := fun _ => rfl
 have hz : ∀ d, cfg.fzF 32 d = (false) := fun _ => rfl
 have ht : ∀ d, cfg.tkF 32 d = (false) := fun _ => rfl
 have hr_ : ∀ g, cfg.raw g = (g == 152 || g == 118) := fun _ => rfl
 refine rF_fn rfl rfl Tryz.func32 rfl ?_
 repeat' first|simp (disch:=first|omega|assumption|decide) only[go_sem,hm,hz,ht,hr_]|(apply ifP_in<;>intro)
 have hll := Ho.lossy_len _ b (Nat.le_refl _)
 obtain ⟨D, hD⟩ : ∃ D, D = Ho.lossy b := ⟨_, rfl⟩
 rw [← hD] at hll ⊢
 refine rL_loop (σ := List Int × List UInt8) (fun z e H' => H' = H ∧ e 0 = .sl (z.2.map byteA) ∧ e 3 = .sl (z.1.map iA) ∧ z.2.length ≤ b.length ∧ D = z.1 ++ Ho.lossy z.2) (fun z => z.2.length) ([], b) ?_ ?_
 ·refine ⟨rfl, ?_, ?_, by simp, by simp [hD]⟩
  all_goals first | (simp (disch := first | assumption | omega) only [go_sem]; done) | (simp (disch := first | assumption | omega) only [go_sem]; rfl)
 ·rintro ⟨o, s⟩ e H' ⟨rfl, g0, g3, i1, hd⟩
  simp only at g0 g3 i1 hd
  have hol : o.length ≤ 1000000 := by have := congrArg List.length hd; rw [List.length_append] at this; omega
  by_cases hs : 0 < s.length
  ·have hlc := Ho.lossy_cons hs
   have hn1 := Ho.nx_pos s
   have hn2 := Ho.nx_le s hs
   repeat' first|simp (disch:=first|omega|assumption|decide) only[go_sem,hm,hz,ht,hr_,g0,g3]|(apply ifP_in<;>intro)
   refine rF_use (next_w s hs (by omega)) ?_
   rintro _ H1 ⟨⟨ok, rfl⟩, rfl⟩
   generalize (Ho.nx s).1 = c at *
   generalize (Ho.nx s).2 = n at *
   repeat' first|simp (disch:=first|omega|assumption|decide) only[go_sem,hm,hz,ht,hr_,g0,g3]|(apply ifP_in<;>intro)
   refine ⟨(o ++ [c], s.drop n), ⟨?_, rfl, by simp only [List.length_drop]; omega, by rw [hd, hlc]; simp⟩, by simp only [List.length_drop]; omega⟩
   simp
  ·have : s = [] := List.eq_nil_of_length_eq_zero (by omega)
   subst this
   rw [Ho.lossy_nil, List.append_nil] at hd
   subst hd
   repeat' first|simp (disch:=first|omega|assumption|decide) only[go_sem,hm,hz,ht,hr_,g0,g3]|(apply ifP_in<;>intro)
end Hs
end Go.Proofs
set_option linter.unusedVariables false
set_option linter.unusedSimpArgs false
namespace Ho
open Go
def isd (base : Int) (c : UInt8) : Bool := decide (0 ≤ dig c ∧ dig c < base)
def digs (base : Int) (s : List UInt8) : Bool := s.all (isd base)
def num (base : Int) (s : List UInt8) : Int := s.foldl (fun n c => n * base + dig c) 0
def capn (C base : Int) (s : List UInt8) : Int := s.foldl (fun n c => min (n * base + dig c) C) 0
theorem capn_take {C base : Int} {s : List UInt8} {i : Nat} (h : i < s.length) : capn C base (s.take (i + 1)) = min (capn C base (s.take i) * base + dig s[i]) C := by
 unfold capn
 rw [List.take_succ_eq_append_getElem h, List.foldl_append]; rfl
theorem digs_take {base : Int} {s : List UInt8} {i : Nat} (h : i < s.length) : digs base (s.take (i + 1)) = (digs base (s.take i) && isd base s[i]) := by
 unfold digs
 rw [List.take_succ_eq_append_getElem h, List.all_append]; simp
theorem digs_not {base : Int} {s : List UInt8} {i : Nat} (h : i < s.length) (hn : isd base s[i] = false) : digs base s = false := by
 cases hd : digs base s with
 | false => rfl
 | true => rw [List.all_eq_true.1 hd _ (List.getElem_mem h)] at hn; cases hn
theorem capn_bnd {C base : Int} (hC : 0 ≤ C) (hb : 0 ≤ base) : ∀ (s : List UInt8) (n : Int), 0 ≤ n → n ≤ C → digs base s = true → 0 ≤ s.foldl (fun n c => min (n * base + dig c) C) n ∧ s.foldl (fun n c => min (n * base + dig c) C) n ≤ C := by
 intro s
 induction s with
 | nil => intro n h0 h1 _; exact ⟨h0, h1⟩
 | cons c s ih =>
  intro n h0 h1 hd
  unfold digs at hd
  rw [List.all_cons, Bool.and_eq_true] at hd
  have hc : 0 ≤ dig c := (of_decide_eq_true hd.1).1
  rw [List.foldl_cons]
  have : 0 ≤ n * base := Int.mul_nonneg h0 hb
  exact ih _ (by omega) (by omega) hd.2
theorem capn_ok {C base : Int} (hC : 0 ≤ C) (hb : 0 ≤ base) {s : List UInt8} (hd : digs base s = true) : 0 ≤ capn C base s ∧ capn C base s ≤ C := capn_bnd hC hb s 0 (by omega) hC hd
theorem capn_min {C base : Int} (hC : 0 ≤ C) (hb : 1 ≤ base) : ∀ (s : List UInt8) (n m : Int), m = min n C → 0 ≤ n → digs base s = true → s.foldl (fun n c => min (n * base + dig c) C) m = min (s.foldl (fun n c => n * base + dig c) n) C ∧ 0 ≤ s.foldl (fun n c => n * base + dig c) n := by
 intro s
 induction s with
 | nil => intro n m h h0 _; exact ⟨h, h0⟩
 | cons c s ih =>
  intro n m h h0 hd
  unfold digs at hd
  rw [List.all_cons, Bool.and_eq_true] at hd
  have hc : 0 ≤ dig c := (of_decide_eq_true hd.1).1
  rw [List.foldl_cons, List.foldl_cons]
  have hn : 0 ≤ n * base := Int.mul_nonneg h0 (by omega)
  refine ih (n * base + dig c) _ ?_ (by omega) hd.2
  rcases Int.le_total n C with hle | hle
  ·rw [h, Int.min_eq_left hle]
  ·have h1 : C ≤ C * base := by
    have := Int.mul_le_mul_of_nonneg_left hb hC
    omega
   have h2 : C * base ≤ n * base := Int.mul_le_mul_of_nonneg_right hle (by omega)
   rw [h, Int.min_eq_right hle]
   omega
theorem capn_eq {C base : Int} (hC : 0 ≤ C) (hb : 1 ≤ base) {s : List UInt8} (hd : digs base s = true) : capn C base s = min (num base s) C := (capn_min hC hb s 0 0 (by omega) (by omega) hd).1
def hexp (s : List UInt8) : Bool := decide (s.take 2 = [48, 120] ∨ s.take 2 = [48, 88])
def pbase (s : List UInt8) : Int := if hexp s = true then 16 else if 1 < s.length ∧ s.getD 0 0 = 48 then 8 else 10
def prest (s : List UInt8) : List UInt8 := if hexp s = true then s.drop 2 else if 1 < s.length ∧ s.getD 0 0 = 48 then s.drop 1 else s
def pok (s : List UInt8) : Bool := decide (s ≠ []) && digs (pbase s) (prest s)
def pval (C : Int) (s : List UInt8) : Int := if pok s = true then capn C (pbase s) (prest s) else 0
theorem pk_hex {s : List UInt8} (hh : hexp s = true) : pbase s = 16 ∧ prest s = s.drop 2 := by unfold pbase prest; rw [if_pos hh, if_pos hh]; exact ⟨rfl, rfl⟩
theorem pk_8 {s : List UInt8} (hh : hexp s = false) (h8 : 1 < s.length ∧ s.getD 0 0 = 48) : pbase s = 8 ∧ prest s = s.drop 1 := by
 have hn : ¬ hexp s = true := by rw [hh]; simp
 unfold pbase prest; rw [if_neg hn, if_neg hn, if_pos h8, if_pos h8]; exact ⟨rfl, rfl⟩
theorem pk_10 {s : List UInt8} (hh : hexp s = false) (h8 : ¬ (1 < s.length ∧ s.getD 0 0 = 48)) : pbase s = 10 ∧ prest s = s := by
 have hn : ¬ hexp s = true := by rw [hh]; simp
 unfold pbase prest; rw [if_neg hn, if_neg hn, if_neg h8, if_neg h8]; exact ⟨rfl, rfl⟩
theorem pok_of {s : List UInt8} (h0 : s ≠ []) {b : Int} {t : List UInt8} (h : pbase s = b ∧ prest s = t) : pok s = digs b t := by
 unfold pok; rw [h.1, h.2, decide_eq_true h0]; rfl
theorem pval_of {s : List UInt8} (h0 : s ≠ []) {C b : Int} {t : List UInt8} (h : pbase s = b ∧ prest s = t) : pval C s = if digs b t = true then capn C b t else 0 := by
 unfold pval; rw [pok_of h0 h, h.1, h.2]
def parts (s : List UInt8) : List (List UInt8) := if 1 < (Sp.split 46 s).length ∧ (Sp.split 46 s).getD ((Sp.split 46 s).length - 1) [] = [] then (Sp.split 46 s).take ((Sp.split 46 s).length - 1) else Sp.split 46 s
def lastp (s : List UInt8) : List UInt8 := (parts s).getD ((parts s).length - 1) []
def ends (s : List UInt8) : Bool := decide (lastp s ≠ []) && (digs 10 (lastp s) || (hexp (lastp s) && digs 16 ((lastp s).drop 2)))
theorem isd_mono {a b : Int} (h : a ≤ b) {c : UInt8} (hc : isd a c = true) : isd b c = true := by
 have := of_decide_eq_true hc
 exact decide_eq_true (by omega)
theorem ends_pok {s : List UInt8} (h0 : s ≠ []) (hd : digs 10 s = false) : pok s = (hexp s && digs 16 (s.drop 2)) := by
 cases hh : hexp s with
 | true => rw [pok_of h0 (pk_hex hh)]; rfl
 | false =>
  by_cases h8 : 1 < s.length ∧ s.getD 0 0 = 48
  ·rw [pok_of h0 (pk_8 hh h8)]
   cases h : digs 8 (s.drop 1) with
   | false => rfl
   | true =>
    exfalso
    have : digs 10 s = true := by
     cases s with
     | nil => exact absurd rfl h0
     | cons a r =>
      have ha : a = 48 := h8.2
      subst ha
      unfold digs at h ⊢
      rw [List.all_cons, Bool.and_eq_true]
      refine ⟨by decide, List.all_eq_true.2 fun c hc => isd_mono (a := 8) (by omega) (List.all_eq_true.1 h c (by simpa using hc))⟩
    rw [this] at hd; cases hd
  ·rw [pok_of h0 (pk_10 hh h8), hd]; rfl
theorem split_pos (s : List UInt8) : 0 < (Sp.split 46 s).length := Sp.split_pos s
theorem parts_pos (s : List UInt8) : 0 < (parts s).length := by
 have := split_pos s
 unfold parts
 split
 ·simp; omega
 ·exact this
theorem parts_mem {s x : List UInt8} (h : x ∈ parts s) : x ∈ Sp.split 46 s := by
 unfold parts at h
 split at h
 ·exact List.mem_of_mem_take h
 ·exact h
theorem parts_len (s : List UInt8) : (parts s).length ≤ s.length + 1 := by
 have := Sp.split_len_le (c := 46) s
 unfold parts
 split
 ·simp; omega
 ·exact this
theorem pval_bnd {C : Int} (hC : 0 ≤ C) (s : List UInt8) : 0 ≤ pval C s ∧ pval C s ≤ C := by
 unfold pval
 split
 ·rename_i h
  unfold pok at h
  rw [Bool.and_eq_true] at h
  refine capn_ok hC ?_ h.2
  unfold pbase
  repeat' split
  all_goals omega
 ·exact ⟨by omega, hC⟩
def sm (ns : List Int) : Nat → Int
 | 0 => 0
 | i + 1 => sm ns i + ns.getD i 0 * 256 ^ (3 - i)
def big (ns : List Int) (k : Nat) : Bool := (ns.take k).any fun v => decide (255 < v)
theorem big_take {ns : List Int} {i : Nat} (h : i < ns.length) : big ns (i + 1) = (big ns i || decide (255 < ns.getD i 0)) := by
 unfold big
 rw [List.take_succ_eq_append_getElem h, List.any_append, xgD, xgE h]; simp
theorem big_mono {ns : List Int} {i k : Nat} (h : i ≤ k) (hb : big ns i = true) : big ns k = true := by
 obtain ⟨x, hx, hv⟩ := List.any_eq_true.1 hb
 exact List.any_eq_true.2 ⟨x, List.take_subset_take_left ns h hx, hv⟩
def p4n (ns : List Int) : Int × Int := if 256 ^ (5 - ns.length) ≤ ns.getD (ns.length - 1) 0 ∨ big ns (ns.length - 1) = true then (0, 1) else (ns.getD (ns.length - 1) 0 + sm ns (ns.length - 1), 0)
def p4 (C : Int) (s : List UInt8) : Int × Int := if 4000 < s.length then (0, 11) else if 4 < (parts s).length then (0, 4) else if (parts s).all pok = false then (0, 4) else p4n ((parts s).map (pval C))
end Ho
/- Walks: numbers. -/
set_option linter.unusedVariables false
set_option linter.unusedSimpArgs false
namespace Go.Proofs
open Go.Lv
namespace Hs
open Pu Ut Utf
variable {H : Heap}
theorem hp_w (s p : List UInt8) : WF Tryz.prog cfg 17 [.str s, .str p] H (fun r H' => r = .b (decide (s.take p.length = p)) ∧ H' = H) := by
 have hm : ∀ d, cfg.muF 17 d = (false) := fun _ => rfl
 have hz : ∀ d, cfg.fzF 17 d = (false) := fun _ => rfl
 have ht : ∀ d, cfg.tkF 17 d = (false) := fun _ => rfl
 have hr_ : ∀ g, cfg.raw g = (g == 152 || g == 118) := fun _ => rfl
 refine rF_fn rfl rfl Tryz.func17 rfl ?_
 repeat' first|simp (disch:=first|omega|assumption|decide) only[go_sem,hm,hz,ht,hr_,hasPrefix_we]|(apply ifP_in<;>intro)
theorem hp_e (s p : List UInt8) {Q : K (AV → Heap → Prop)} : @rF Tryz.prog cfg 17 [.str s, .str p] H Q = Q.v (.b (decide (s.take p.length = p))) H := rF_eq (hp_w s p)
theorem minA_i {a b : Int} : minA (.i a) (.i b) = some (.i (min a b)) := by
 unfold minA
 simp only [Option.some.injEq, AV.v.injEq, Value.int.injEq, true_and]
 split <;> omega
theorem number_w (s : List UInt8) (base : Int) (hb : base = 8 ∨ base = 10 ∨ base = 16) (hs : s.length ≤ 1000000) : WF Tryz.prog cfg 63 [.str s, .i base] H (fun r H' => r = .tup [.i (if Ho.digs base s = true then Ho.capn 8589934592 base s else 0), .b (Ho.digs base s)] ∧ H' = H) := by
 have hm : ∀ d, cfg.muF 63 d = (false) := fun _ => rfl
 have hz : ∀ d, cfg.fzF 63 d = (false) := fun _ => rfl
 have ht : ∀ d, cfg.tkF 63 d = (false) := fun _ => rfl
 have hr_ : ∀ g, cfg.raw g = (g == 152 || g == 118) := fun _ => rfl
 refine rF_fn rfl rfl Tryz.func63 rfl ?_
 repeat' first|simp (disch:=first|omega|assumption|decide) only[go_sem,hm,hz,ht,hr_]|(apply ifP_in<;>intro)
 refine rL_loop (σ := Nat) (fun i e H' => H' = H ∧ e 0 = .str s ∧ e 1 = .i base ∧ e 10 = .i s.length ∧ e 11 = .i i ∧ e 6 = .i (Ho.capn 8589934592 base (s.take i)) ∧ i ≤ s.length ∧ Ho.digs base (s.take i) = true) (fun i => s.length - i) 0 ?_ ?_
 ·refine ⟨rfl, ?_, ?_, ?_, ?_, ?_, by omega, rfl⟩
  all_goals first | (simp (disch := first | assumption | omega) only [go_sem]; done) | (simp (disch := first | assumption | omega) only [go_sem]; rfl)
 ·rintro i e H' ⟨rfl, g0, g1, g10, g11, g6, i1, hdg⟩
  by_cases hi : i < s.length
  ·have hix := ix_at hi
   have htk := Ho.capn_take (C := 8589934592) (base := base) hi
   have hdt := Ho.digs_take (base := base) hi
   have hbd := Ho.capn_ok (C := 8589934592) (base := base) (by omega) (by omega) hdg
   have hno := fun h => Ho.digs_not (base := base) hi h
   generalize s[i] = c at *
   generalize Ho.capn 8589934592 base (s.take i) = n at *
   have hd := Ho.dig_bnd c
   by_cases hc : 0 ≤ Ho.dig c ∧ Ho.dig c < base
   ·obtain ⟨c1, c2⟩ := hc
    have hisd : Ho.isd base c = true := decide_eq_true ⟨c1, c2⟩
    rw [hisd, hdg] at hdt
    rcases hb with rfl | rfl | rfl
    ·repeat' first|simp (disch:=first|omega|assumption|decide) only[go_sem,hm,hz,ht,hr_,g0,g1,g10,g11,g6,hix,idigit_e,minA_i]|(apply ifP_in<;>intro)
     exact ⟨i + 1, ⟨rfl, by rw [htk], by omega, hdt⟩, by omega⟩
    ·repeat' first|simp (disch:=first|omega|assumption|decide) only[go_sem,hm,hz,ht,hr_,g0,g1,g10,g11,g6,hix,idigit_e,minA_i]|(apply ifP_in<;>intro)
     exact ⟨i + 1, ⟨rfl, by rw [htk], by omega, hdt⟩, by omega⟩
    ·repeat' first|simp (disch:=first|omega|assumption|decide) only[go_sem,hm,hz,ht,hr_,g0,g1,g10,g11,g6,hix,idigit_e,minA_i]|(apply ifP_in<;>intro)
     exact ⟨i + 1, ⟨rfl, by rw [htk], by omega, hdt⟩, by omega⟩
   ·have hisd : Ho.isd base c = false := decide_eq_false hc
    rw [hno hisd]
    by_cases c1 : 0 ≤ Ho.dig c
    ·have c2 : ¬ Ho.dig c < base := fun h => hc ⟨c1, h⟩
     repeat' first|simp (disch:=first|omega|assumption|decide) only[go_sem,hm,hz,ht,hr_,g0,g1,g10,g11,g6,hix,idigit_e]|(apply ifP_in<;>intro)
    ·repeat' first|simp (disch:=first|omega|assumption|decide) only[go_sem,hm,hz,ht,hr_,g0,g1,g10,g11,g6,hix,idigit_e]|(apply ifP_in<;>intro)
  ·have : i = s.length := by omega
   subst this
   rw [List.take_length] at g6 hdg
   rw [if_pos hdg, hdg]
   repeat' first|simp (disch:=first|omega|assumption|decide) only[go_sem,hm,hz,ht,hr_,g0,g1,g10,g11,g6]|(apply ifP_in<;>intro)
theorem number_e (s : List UInt8) (base : Int) (hb : base = 8 ∨ base = 10 ∨ base = 16) (hs : s.length ≤ 1000000) {Q : K (AV → Heap → Prop)} : @rF Tryz.prog cfg 63 [.str s, .i base] H Q = Q.v (.tup [.i (if Ho.digs base s = true then Ho.capn 8589934592 base s else 0), .b (Ho.digs base s)]) H := rF_eq (number_w s base hb hs)
end Hs
end Go.Proofs
/- Walks: parts of an address. -/
set_option linter.unusedVariables false
set_option linter.unusedSimpArgs false
namespace Go.Proofs
open Go.Lv
namespace Hs
open Pu Ut Utf
variable {H : Heap}
theorem l120 : ([48, 120] : List UInt8).length = 2 := rfl
theorem l88 : ([48, 88] : List UInt8).length = 2 := rfl
theorem part_w (s : List UInt8) (hs : s.length ≤ 1000000) : WF Tryz.prog cfg 64 [.str s] H (fun r H' => r = .tup [.i (Ho.pval 8589934592 s), .b (Ho.pok s)] ∧ H' = H) := by
 have hm : ∀ d, cfg.muF 64 d = (false) := fun _ => rfl
 have hz : ∀ d, cfg.fzF 64 d = (false) := fun _ => rfl
 have ht : ∀ d, cfg.tkF 64 d = (false) := fun _ => rfl
 have hr_ : ∀ g, cfg.raw g = (g == 152 || g == 118) := fun _ => rfl
 refine rF_fn rfl rfl Tryz.func64 rfl ?_
 by_cases h0 : s = []
 ·subst h0
  repeat' first|simp (disch:=first|omega|assumption|decide) only[go_sem,hm,hz,ht,hr_]|(apply ifP_in<;>intro)
  all_goals first | rfl | exact ⟨rfl, rfl⟩
 ·have hpos : 0 < s.length := List.length_pos_iff.2 h0
  by_cases hx : s.take 2 = [48, 120] ∨ s.take 2 = [48, 88]
  ·have hh : Ho.hexp s = true := decide_eq_true hx
   have h2 : 2 ≤ s.length := by rcases hx with hx | hx <;> (have := congrArg List.length hx; simp at this; omega)
   have e1 : Ho.pok s = Ho.digs 16 (s.drop 2) := Ho.pok_of h0 (Ho.pk_hex hh)
   have e2 : Ho.pval 8589934592 s = if Ho.digs 16 (s.drop 2) = true then Ho.capn 8589934592 16 (s.drop 2) else 0 := Ho.pval_of h0 (Ho.pk_hex hh)
   have hlen : (s.drop 2).length ≤ 1000000 := by simp; omega
   rw [e1, e2]
   rcases hx with hx | hx
   ·repeat' first|simp (disch:=first|omega|assumption|decide) only[go_sem,hm,hz,ht,hr_,hp_e,l120,l88,hx,decide_eq_true hx,number_e]|(apply ifP_in<;>intro)
   ·have hx1 : ¬ s.take 2 = [48, 120] := by rw [hx]; decide
    repeat' first|simp (disch:=first|omega|assumption|decide) only[go_sem,hm,hz,ht,hr_,hp_e,l120,l88,decide_eq_true hx,decide_eq_false hx1,number_e]|(apply ifP_in<;>intro)
  ·have hh : Ho.hexp s = false := decide_eq_false hx
   have hx1 : ¬ s.take 2 = [48, 120] := fun h => hx (.inl h)
   have hx2 : ¬ s.take 2 = [48, 88] := fun h => hx (.inr h)
   have hix0 : ix s 0 = s.getD 0 0 := ix_get (i := 0) hpos
   by_cases h8 : 1 < s.length ∧ s.getD 0 0 = 48
   ·have e1 : Ho.pok s = Ho.digs 8 (s.drop 1) := Ho.pok_of h0 (Ho.pk_8 hh h8)
    have e2 : Ho.pval 8589934592 s = if Ho.digs 8 (s.drop 1) = true then Ho.capn 8589934592 8 (s.drop 1) else 0 := Ho.pval_of h0 (Ho.pk_8 hh h8)
    rw [e1, e2]
    obtain ⟨h81, h82⟩ := h8
    have hlen : (s.drop 1).length ≤ 1000000 := by simp; omega
    rw [h82] at hix0
    repeat' first|simp (disch:=first|omega|assumption|decide) only[go_sem,hm,hz,ht,hr_,hp_e,l120,l88,decide_eq_false hx1,decide_eq_false hx2,hix0,number_e]|(apply ifP_in<;>intro)
   ·have e1 : Ho.pok s = Ho.digs 10 s := Ho.pok_of h0 (Ho.pk_10 hh h8)
    have e2 : Ho.pval 8589934592 s = if Ho.digs 10 s = true then Ho.capn 8589934592 10 s else 0 := Ho.pval_of h0 (Ho.pk_10 hh h8)
    rw [e1, e2]
    generalize s.getD 0 0 = c at *
    by_cases h48 : c = 48
    ·have h81 : ¬ 1 < s.length := fun h => h8 ⟨h, h48⟩
     rw [h48] at hix0
     repeat' first|simp (disch:=first|omega|assumption|decide) only[go_sem,hm,hz,ht,hr_,hp_e,l120,l88,decide_eq_false hx1,decide_eq_false hx2,hix0,number_e]|(apply ifP_in<;>intro)
    ·have hcn : ¬ c.toNat = 48 := fun h => h48 (UInt8.toNat.inj h)
     have hci : ¬ ((c.toNat : Int) = 48) := by omega
     repeat' first|simp (disch:=first|omega|assumption|decide) only[go_sem,hm,hz,ht,hr_,hp_e,l120,l88,decide_eq_false hx1,decide_eq_false hx2,hix0,number_e]|(apply ifP_in<;>intro)
theorem part_e (s : List UInt8) (hs : s.length ≤ 1000000) {Q : K (AV → Heap → Prop)} : @rF Tryz.prog cfg 64 [.str s] H Q = Q.v (.tup [.i (Ho.pval 8589934592 s), .b (Ho.pok s)]) H := rF_eq (part_w s hs)
end Hs
end Go.Proofs
/- Walks: the parts of an address, and how it ends. -/
set_option linter.unusedVariables false
set_option linter.unusedSimpArgs false
namespace Go.Proofs
open Go.Lv
namespace Hs
open Pu Ut Utf
variable {H : Heap}
theorem ix_last {l : List (List UInt8)} (h : 0 < l.length) : ix l ((l.length : Int) - 1) = l.getD (l.length - 1) [] := by
 have : ((l.length : Int) - 1).toNat = l.length - 1 := by omega
 simp only [ix, this, xgD, xgE (show l.length - 1 < l.length by omega)]; rfl
theorem parts_w (s : List UInt8) (hs : s.length ≤ 1000000) : WF Tryz.prog cfg 62 [.str s] H (fun r H' => r = .sl ((Ho.parts s).map AV.str) ∧ H' = H) := by
 have hm : ∀ d, cfg.muF 62 d = (false) := fun _ => rfl
 have hz : ∀ d, cfg.fzF 62 d = (false) := fun _ => rfl
 have ht : ∀ d, cfg.tkF 62 d = (false) := fun _ => rfl
 have hr_ : ∀ g, cfg.raw g = (g == 152 || g == 118) := fun _ => rfl
 refine rF_fn rfl rfl Tryz.func62 rfl ?_
 have hpos := Ho.split_pos s
 have hle := Sp.split_len_le (c := (46 : UInt8)) s
 have hps : Ho.parts s = if 1 < (Sp.split 46 s).length ∧ (Sp.split 46 s).getD ((Sp.split 46 s).length - 1) [] = [] then (Sp.split 46 s).take ((Sp.split 46 s).length - 1) else Sp.split 46 s := rfl
 rw [hps]
 have hsp : ∀ {Q : K (AV → Heap → Prop)}, @rF Tryz.prog cfg 84 [.str s, .str [46]] H Q = Q.v (.sl ((Sp.split 46 s).map AV.str)) H := split_we s 46 hs
 generalize Sp.split 46 s = p at *
 have hil := ix_last hpos
 have htn : ((p.length : Int) - 1).toNat = p.length - 1 := by omega
 generalize p.getD (p.length - 1) [] = z at *
 by_cases h1 : 1 < p.length
 ·by_cases hze : z = []
  ·rw [if_pos ⟨h1, hze⟩]
   repeat' first|simp (disch:=first|omega|assumption|decide) only[go_sem,hm,hz,ht,hr_,hsp,hil,hze]|(apply ifP_in<;>intro)
   all_goals first | (rw [htn]; done) | rfl | trace_state
  ·rw [if_neg (fun h => hze h.2)]
   repeat' first|simp (disch:=first|omega|assumption|decide) only[go_sem,hm,hz,ht,hr_,hsp,hil]|(apply ifP_in<;>intro)
 ·rw [if_neg (fun h => h1 h.1)]
  repeat' first|simp (disch:=first|omega|assumption|decide) only[go_sem,hm,hz,ht,hr_,hsp,hil]|(apply ifP_in<;>intro)
theorem parts_e (s : List UInt8) (hs : s.length ≤ 1000000) {Q : K (AV → Heap → Prop)} : @rF Tryz.prog cfg 62 [.str s] H Q = Q.v (.sl ((Ho.parts s).map AV.str)) H := rF_eq (parts_w s hs)
theorem lastp_len (s : List UInt8) : (Ho.lastp s).length ≤ s.length := by
 unfold Ho.lastp
 have hpos := Ho.parts_pos s
 rw [xgD, xgE (show (Ho.parts s).length - 1 < (Ho.parts s).length by omega)]
 exact Sp.split_part_len (c := 46) s _ (Ho.parts_mem (List.getElem_mem _))
theorem ends_w (s : List UInt8) (hs : s.length ≤ 1000000) : WF Tryz.prog cfg 35 [.str s] H (fun r H' => r = .b (Ho.ends s) ∧ H' = H) := by
 have hm : ∀ d, cfg.muF 35 d = (false) := fun _ => rfl
 have hz : ∀ d, cfg.fzF 35 d = (false) := fun _ => rfl
 have ht : ∀ d, cfg.tkF 35 d = (false) := fun _ => rfl
 have hr_ : ∀ g, cfg.raw g = (g == 152 || g == 118) := fun _ => rfl
 refine rF_fn rfl rfl Tryz.func35 rfl ?_
 have hpos := Ho.parts_pos s
 have hle := Ho.parts_len s
 have hil := ix_last hpos
 have hll := lastp_len s
 have hes : Ho.ends s = (decide (Ho.lastp s ≠ []) && (Ho.digs 10 (Ho.lastp s) || (Ho.hexp (Ho.lastp s) && Ho.digs 16 ((Ho.lastp s).drop 2)))) := rfl
 rw [show (Ho.parts s).getD ((Ho.parts s).length - 1) [] = Ho.lastp s from rfl] at hil
 rw [hes]
 have hpe : ∀ {Q : K (AV → Heap → Prop)}, @rF Tryz.prog cfg 62 [.str s] H Q = Q.v (.sl ((Ho.parts s).map AV.str)) H := parts_e s hs
 generalize Ho.parts s = p at *
 generalize Ho.lastp s = z at *
 have hzl : z.length ≤ 1000000 := by omega
 by_cases hze : z = []
 ·repeat' first|simp (disch:=first|omega|assumption|decide) only[go_sem,hm,hz,ht,hr_,hpe,hil,hze]|(apply ifP_in<;>intro)
  all_goals first | rfl | trace_state
 ·rw [decide_eq_true hze, Bool.true_and]
  cases hd : Ho.digs 10 z with
  | true =>
   repeat' first|simp (disch:=first|omega|assumption|decide) only[go_sem,hm,hz,ht,hr_,hpe,hil,number_e,hd]|(apply ifP_in<;>intro)
  | false =>
   rw [Bool.false_or, ← Ho.ends_pok hze hd]
   repeat' first|simp (disch:=first|omega|assumption|decide) only[go_sem,hm,hz,ht,hr_,hpe,hil,number_e,hd,part_e]|(apply ifP_in<;>intro)
theorem ends_e (s : List UInt8) (hs : s.length ≤ 1000000) {Q : K (AV → Heap → Prop)} : @rF Tryz.prog cfg 35 [.str s] H Q = Q.v (.b (Ho.ends s)) H := rF_eq (ends_w s hs)
end Hs
end Go.Proofs
/- Walks: numbers of four bytes. -/
set_option linter.unusedVariables false
set_option linter.unusedSimpArgs false
namespace Go.Proofs
open Go.Lv
namespace Hs
open Pu Ut Utf
variable {H : Heap}
theorem ix_int {l : List Int} {i : Nat} (h : i < l.length) : ix l (i : Int) = l.getD i 0 := by
 simp only [ix, Int.toNat_natCast, xgD, xgE h]; rfl
theorem map_take_succ {α β : Type} {f : α → β} {l : List α} {i : Nat} (h : i < l.length) : (l.take (i + 1)).map f = (l.take i).map f ++ [f l[i]] := by
 rw [List.take_succ_eq_append_getElem h, List.map_append]; rfl
theorem not_all {p : List (List UInt8)} {i : Nat} (h : i < p.length) (hn : Ho.pok p[i] = false) : p.all Ho.pok = false := by
 cases hd : p.all Ho.pok with
 | false => rfl
 | true => rw [List.all_eq_true.1 hd _ (List.getElem_mem h)] at hn; cases hn
theorem all_take {p : List (List UInt8)} {i : Nat} (h : i < p.length) (h1 : (p.take i).all Ho.pok = true) (h2 : Ho.pok p[i] = true) : (p.take (i + 1)).all Ho.pok = true := by
 rw [List.take_succ_eq_append_getElem h, List.all_append, h1]; simp [h2]
theorem parse4_w (s : List UInt8) (hs : s.length ≤ 1000000) : WF Tryz.prog cfg 36 [.str s] H (fun r H' => r = .tup [.v (.int .u32 (IntKind.u32.wrap (Ho.p4 8589934592 s).1)), .i (Ho.p4 8589934592 s).2] ∧ H' = H) := by
 have hm : ∀ d, cfg.muF 36 d = (false) := fun _ => rfl
 have hz : ∀ d, cfg.fzF 36 d = (false) := fun _ => rfl
 have ht : ∀ d, cfg.tkF 36 d = (false) := fun _ => rfl
 have hr_ : ∀ g, cfg.raw g = (g == 152 || g == 118) := fun _ => rfl
 refine rF_fn rfl rfl Tryz.func36 rfl ?_
 have hpos := Ho.parts_pos s
 have hle := Ho.parts_len s
 have hp4 : Ho.p4 8589934592 s = if 4000 < s.length then (0, 11) else if 4 < (Ho.parts s).length then (0, 4) else if (Ho.parts s).all Ho.pok = false then (0, 4) else Ho.p4n ((Ho.parts s).map (Ho.pval 8589934592)) := rfl
 rw [hp4]
 have hpm : ∀ x ∈ Ho.parts s, x.length ≤ 1000000 := fun x hx => Nat.le_trans (Sp.split_part_len (c := 46) s x (Ho.parts_mem hx)) hs
 have hpe : ∀ {Q : K (AV → Heap → Prop)}, @rF Tryz.prog cfg 62 [.str s] H Q = Q.v (.sl ((Ho.parts s).map AV.str)) H := parts_e s hs
 generalize Ho.parts s = p at *
 clear hp4
 by_cases h4000 : 4000 < s.length
 ·rw [if_pos h4000]
  repeat' first|simp (disch:=first|omega|assumption|decide) only[go_sem,hm,hz,ht,hr_]|(apply ifP_in<;>intro)
 rw [if_neg h4000]
 by_cases h4 : 4 < p.length
 ·rw [if_pos h4]
  repeat' first|simp (disch:=first|omega|assumption|decide) only[go_sem,hm,hz,ht,hr_,hpe]|(apply ifP_in<;>intro)
 rw [if_neg h4]
 repeat' first|simp (disch:=first|omega|assumption|decide) only[go_sem,hm,hz,ht,hr_,hpe]|(apply ifP_in<;>intro)
 refine rL_loop (σ := Nat) (fun i e H' => H' = H ∧ e 22 = .sl (p.map AV.str) ∧ e 23 = .i p.length ∧ e 24 = .i i ∧ e 5 = .sl (((p.take i).map (Ho.pval 8589934592)).map iA) ∧ i ≤ p.length ∧ (p.take i).all Ho.pok = true) (fun i => p.length - i) 0 ?_ ?_
 ·refine ⟨rfl, ?_, ?_, ?_, ?_, by omega, rfl⟩
  all_goals first | (simp (disch := first | assumption | omega) only [go_sem]; done) | (simp (disch := first | assumption | omega) only [go_sem]; rfl)
 ·rintro i e H' ⟨rfl, g22, g23, g24, g5, i1, hall⟩
  by_cases hi : i < p.length
  ·have hix := ix_at hi
   have hms := map_take_succ (f := Ho.pval 8589934592) hi
   have hno := not_all hi
   have hat := all_take hi hall
   have hxl := hpm _ (List.getElem_mem hi)
   have htl : ((p.take i).map (Ho.pval 8589934592)).length ≤ 4 := by simp; omega
   generalize p[i] = x at *
   generalize (p.take i).map (Ho.pval 8589934592) = ns at *
   cases hok : Ho.pok x with
   | false =>
    rw [if_pos (hno hok)]
    repeat' first|simp (disch:=first|omega|assumption|decide) only[go_sem,hm,hz,ht,hr_,g22,g23,g24,g5,hix,part_e,hok]|(apply ifP_in<;>intro)
     | true =>
    repeat' first|simp (disch:=first|omega|assumption|decide) only[go_sem,hm,hz,ht,hr_,g22,g23,g24,g5,hix,part_e,hok]|(apply ifP_in<;>intro)
    exact ⟨i + 1, ⟨rfl, by rw [hms], by omega, hat hok⟩, by omega⟩
  ·have : i = p.length := by omega
   subst this
   rw [List.take_length] at g5 hall
   rw [if_neg (by rw [hall]; simp)]
   have hbd : ∀ i, 0 ≤ (p.map (Ho.pval 8589934592)).getD i 0 ∧ (p.map (Ho.pval 8589934592)).getD i 0 ≤ 8589934592 := by
    intro i
    rw [xgD, List.getElem?_map]
    cases p[i]? with
    | none => simp
    | some x => exact Ho.pval_bnd (by omega) x
   have hnl : (p.map (Ho.pval 8589934592)).length = p.length := by simp
   generalize p.map (Ho.pval 8589934592) = ns at *
   clear hpe hpm hall
   have hlen : ns.length = 1 ∨ ns.length = 2 ∨ ns.length = 3 ∨ ns.length = 4 := by omega
   rcases hlen with hL | hL | hL | hL
   ·have hLi : (ns.length : Int) = 1 := by omega
    have hik := ix_int (l := ns) (i := 0) (by omega)
    have hbk := hbd 0
    have hp : Ho.p4n ns = if 4294967296 ≤ ns.getD 0 0 ∨ Ho.big ns 0 = true then (0, 1) else (ns.getD 0 0 + Ho.sm ns 0, 0) := by unfold Ho.p4n; rw [hL]; rfl
    rw [hp]
    simp only [Int.natCast_zero, Int.natCast_one, Int.cast_ofNat_Int] at hik
    by_cases hbig : 4294967296 ≤ ns.getD 0 0
    ·rw [if_pos (.inl hbig)]
     generalize ns.getD 0 0 = z at *
     repeat' first|simp (disch:=first|omega|assumption|decide) only[go_sem,hm,hz,ht,hr_,g22,g23,g24,g5,hLi,hik]|(apply ifP_in<;>intro)
    ·have hp2 : (if 4294967296 ≤ ns.getD 0 0 ∨ Ho.big ns 0 = true then ((0 : Int), (1 : Int)) else (ns.getD 0 0 + Ho.sm ns 0, 0)) = if Ho.big ns 0 = true then (0, 1) else (ns.getD 0 0 + Ho.sm ns 0, 0) := by
      congr 1
      exact propext ⟨fun h => h.resolve_left hbig, .inr⟩
     rw [hp2]
     obtain ⟨z, hz'⟩ : ∃ z, z = ns.getD 0 0 := ⟨_, rfl⟩
     rw [← hz'] at hik hbig hbk ⊢
     repeat' first|simp (disch:=first|omega|assumption|decide) only[go_sem,hm,hz,ht,hr_,g22,g23,g24,g5,hLi,hik]|(apply ifP_in<;>intro)
     refine rL_loop (σ := Nat) (fun i e K => K = H' ∧ e 55 = .sl ((ns.take 0).map iA) ∧ e 56 = .i 0 ∧ e 57 = .i i ∧ e 11 = .i (z + Ho.sm ns i) ∧ i ≤ 0 ∧ Ho.big ns i = false ∧ 0 ≤ Ho.sm ns i ∧ Ho.sm ns i ≤ i * 4294967296) (fun i => 0 - i) 0 ?_ ?_
     ·refine ⟨rfl, ?_, ?_, ?_, ?_, by omega, rfl, by simp [Ho.sm], by simp [Ho.sm]⟩
      all_goals first | (simp (disch := first | assumption | omega) only [go_sem, hLi, hik, g5]; done) | (simp (disch := first | assumption | omega) only [go_sem, hLi, hik, g5]; rfl) | (simp [Ho.sm, hik, g5, hLi, go_sem]; done) | (simp [Ho.sm, hik, g5, hLi, go_sem]; omega)
     ·clear g22 g23 g24 g5
      rintro i e K ⟨rfl, g55, g56, g57, g11, i2, hbf, s0, s1⟩
      have : i = 0 := by omega
      subst this
      rw [if_neg (by rw [hbf]; simp)]
      repeat' first|simp (disch:=first|omega|assumption|decide) only[go_sem,hm,hz,ht,hr_,g55,g56,g57,g11]|(apply ifP_in<;>intro)
   ·have hLi : (ns.length : Int) = 2 := by omega
    have hik := ix_int (l := ns) (i := 1) (by omega)
    have hbk := hbd 1
    have hp : Ho.p4n ns = if 16777216 ≤ ns.getD 1 0 ∨ Ho.big ns 1 = true then (0, 1) else (ns.getD 1 0 + Ho.sm ns 1, 0) := by unfold Ho.p4n; rw [hL]; rfl
    rw [hp]
    simp only [Int.natCast_zero, Int.natCast_one, Int.cast_ofNat_Int] at hik
    by_cases hbig : 16777216 ≤ ns.getD 1 0
    ·rw [if_pos (.inl hbig)]
     generalize ns.getD 1 0 = z at *
     repeat' first|simp (disch:=first|omega|assumption|decide) only[go_sem,hm,hz,ht,hr_,g22,g23,g24,g5,hLi,hik]|(apply ifP_in<;>intro)
    ·have hp2 : (if 16777216 ≤ ns.getD 1 0 ∨ Ho.big ns 1 = true then ((0 : Int), (1 : Int)) else (ns.getD 1 0 + Ho.sm ns 1, 0)) = if Ho.big ns 1 = true then (0, 1) else (ns.getD 1 0 + Ho.sm ns 1, 0) := by
      congr 1
      exact propext ⟨fun h => h.resolve_left hbig, .inr⟩
     rw [hp2]
     obtain ⟨z, hz'⟩ : ∃ z, z = ns.getD 1 0 := ⟨_, rfl⟩
     rw [← hz'] at hik hbig hbk ⊢
     repeat' first|simp (disch:=first|omega|assumption|decide) only[go_sem,hm,hz,ht,hr_,g22,g23,g24,g5,hLi,hik]|(apply ifP_in<;>intro)
     refine rL_loop (σ := Nat) (fun i e K => K = H' ∧ e 55 = .sl ((ns.take 1).map iA) ∧ e 56 = .i 1 ∧ e 57 = .i i ∧ e 11 = .i (z + Ho.sm ns i) ∧ i ≤ 1 ∧ Ho.big ns i = false ∧ 0 ≤ Ho.sm ns i ∧ Ho.sm ns i ≤ i * 4294967296) (fun i => 1 - i) 0 ?_ ?_
     ·refine ⟨rfl, ?_, ?_, ?_, ?_, by omega, rfl, by simp [Ho.sm], by simp [Ho.sm]⟩
      all_goals first | (simp (disch := first | assumption | omega) only [go_sem, hLi, hik, g5]; done) | (simp (disch := first | assumption | omega) only [go_sem, hLi, hik, g5]; rfl) | (simp [Ho.sm, hik, g5, hLi, go_sem]; done) | (simp [Ho.sm, hik, g5, hLi, go_sem]; omega)
     ·clear g22 g23 g24 g5
      rintro i e K ⟨rfl, g55, g56, g57, g11, i2, hbf, s0, s1⟩
      by_cases hi : i < 1
      ·have hbt := Ho.big_take (ns := ns) (i := i) (by omega)
       have hix2 : ix (ns.take 1) (i : Int) = ns.getD i 0 := by
        rw [ix_int (by simp; omega)]
        simp [xgD, List.getElem?_take, hi]
       have hvb := hbd i
       have htl : (ns.take 1).length = 1 := by simp; omega
       rcases (by omega : i = 0) with rfl
       ·have g57' : e 57 = .i (0 : Int) := g57
        have hix3 : ix (ns.take 1) (0 : Int) = ns.getD 0 0 := hix2
        have hsm : Ho.sm ns (0 + 1) = Ho.sm ns 0 + ns.getD 0 0 * 16777216 := rfl
        have s1' : Ho.sm ns 0 ≤ 0 := s1
        by_cases hv : 255 < ns.getD 0 0
        ·rw [decide_eq_true hv, Bool.or_true] at hbt
         rw [if_pos (Ho.big_mono (by omega) hbt)]
         clear hbt hsm
         generalize ns.getD 0 0 = v at *
         repeat' first|simp (disch:=first|omega|assumption|decide) only[go_sem,hm,hz,ht,hr_,g55,g56,g57',g11,hix3,htl]|(apply ifP_in<;>intro)
        ·rw [decide_eq_false hv, hbf] at hbt
         generalize ns.getD 0 0 = v at *
         generalize Ho.sm ns 0 = S at *
         repeat' first|simp (disch:=first|omega|assumption|decide) only[go_sem,hm,hz,ht,hr_,g55,g56,g57',g11,hix3,htl]|(apply ifP_in<;>intro)
         exact ⟨0 + 1, ⟨rfl, congrArg AV.i (by rw [hsm]; omega), by omega, hbt, by rw [hsm]; omega, by rw [hsm]; omega⟩, by omega⟩
      ·have : i = 1 := by omega
       subst this
       rw [if_neg (by rw [hbf]; simp)]
       repeat' first|simp (disch:=first|omega|assumption|decide) only[go_sem,hm,hz,ht,hr_,g55,g56,g57,g11]|(apply ifP_in<;>intro)
   ·have hLi : (ns.length : Int) = 3 := by omega
    have hik := ix_int (l := ns) (i := 2) (by omega)
    have hbk := hbd 2
    have hp : Ho.p4n ns = if 65536 ≤ ns.getD 2 0 ∨ Ho.big ns 2 = true then (0, 1) else (ns.getD 2 0 + Ho.sm ns 2, 0) := by unfold Ho.p4n; rw [hL]; rfl
    rw [hp]
    simp only [Int.natCast_zero, Int.natCast_one, Int.cast_ofNat_Int] at hik
    by_cases hbig : 65536 ≤ ns.getD 2 0
    ·rw [if_pos (.inl hbig)]
     generalize ns.getD 2 0 = z at *
     repeat' first|simp (disch:=first|omega|assumption|decide) only[go_sem,hm,hz,ht,hr_,g22,g23,g24,g5,hLi,hik]|(apply ifP_in<;>intro)
    ·have hp2 : (if 65536 ≤ ns.getD 2 0 ∨ Ho.big ns 2 = true then ((0 : Int), (1 : Int)) else (ns.getD 2 0 + Ho.sm ns 2, 0)) = if Ho.big ns 2 = true then (0, 1) else (ns.getD 2 0 + Ho.sm ns 2, 0) := by
      congr 1
      exact propext ⟨fun h => h.resolve_left hbig, .inr⟩
     rw [hp2]
     obtain ⟨z, hz'⟩ : ∃ z, z = ns.getD 2 0 := ⟨_, rfl⟩
     rw [← hz'] at hik hbig hbk ⊢
     repeat' first|simp (disch:=first|omega|assumption|decide) only[go_sem,hm,hz,ht,hr_,g22,g23,g24,g5,hLi,hik]|(apply ifP_in<;>intro)
     refine rL_loop (σ := Nat) (fun i e K => K = H' ∧ e 55 = .sl ((ns.take 2).map iA) ∧ e 56 = .i 2 ∧ e 57 = .i i ∧ e 11 = .i (z + Ho.sm ns i) ∧ i ≤ 2 ∧ Ho.big ns i = false ∧ 0 ≤ Ho.sm ns i ∧ Ho.sm ns i ≤ i * 4294967296) (fun i => 2 - i) 0 ?_ ?_
     ·refine ⟨rfl, ?_, ?_, ?_, ?_, by omega, rfl, by simp [Ho.sm], by simp [Ho.sm]⟩
      all_goals first | (simp (disch := first | assumption | omega) only [go_sem, hLi, hik, g5]; done) | (simp (disch := first | assumption | omega) only [go_sem, hLi, hik, g5]; rfl) | (simp [Ho.sm, hik, g5, hLi, go_sem]; done) | (simp [Ho.sm, hik, g5, hLi, go_sem]; omega)
     ·clear g22 g23 g24 g5
      rintro i e K ⟨rfl, g55, g56, g57, g11, i2, hbf, s0, s1⟩
      by_cases hi : i < 2
      ·have hbt := Ho.big_take (ns := ns) (i := i) (by omega)
       have hix2 : ix (ns.take 2) (i : Int) = ns.getD i 0 := by
        rw [ix_int (by simp; omega)]
        simp [xgD, List.getElem?_take, hi]
       have hvb := hbd i
       have htl : (ns.take 2).length = 2 := by simp; omega
       rcases (by omega : i = 0 ∨ i = 1) with rfl | rfl
       ·have g57' : e 57 = .i (0 : Int) := g57
        have hix3 : ix (ns.take 2) (0 : Int) = ns.getD 0 0 := hix2
        have hsm : Ho.sm ns (0 + 1) = Ho.sm ns 0 + ns.getD 0 0 * 16777216 := rfl
        have s1' : Ho.sm ns 0 ≤ 0 := s1
        by_cases hv : 255 < ns.getD 0 0
        ·rw [decide_eq_true hv, Bool.or_true] at hbt
         rw [if_pos (Ho.big_mono (by omega) hbt)]
         clear hbt hsm
         generalize ns.getD 0 0 = v at *
         repeat' first|simp (disch:=first|omega|assumption|decide) only[go_sem,hm,hz,ht,hr_,g55,g56,g57',g11,hix3,htl]|(apply ifP_in<;>intro)
        ·rw [decide_eq_false hv, hbf] at hbt
         generalize ns.getD 0 0 = v at *
         generalize Ho.sm ns 0 = S at *
         repeat' first|simp (disch:=first|omega|assumption|decide) only[go_sem,hm,hz,ht,hr_,g55,g56,g57',g11,hix3,htl]|(apply ifP_in<;>intro)
         exact ⟨0 + 1, ⟨rfl, congrArg AV.i (by rw [hsm]; omega), by omega, hbt, by rw [hsm]; omega, by rw [hsm]; omega⟩, by omega⟩
       ·have g57' : e 57 = .i (1 : Int) := g57
        have hix3 : ix (ns.take 2) (1 : Int) = ns.getD 1 0 := hix2
        have hsm : Ho.sm ns (1 + 1) = Ho.sm ns 1 + ns.getD 1 0 * 65536 := rfl
        have s1' : Ho.sm ns 1 ≤ 4294967296 := s1
        by_cases hv : 255 < ns.getD 1 0
        ·rw [decide_eq_true hv, Bool.or_true] at hbt
         rw [if_pos (Ho.big_mono (by omega) hbt)]
         clear hbt hsm
         generalize ns.getD 1 0 = v at *
         repeat' first|simp (disch:=first|omega|assumption|decide) only[go_sem,hm,hz,ht,hr_,g55,g56,g57',g11,hix3,htl]|(apply ifP_in<;>intro)
        ·rw [decide_eq_false hv, hbf] at hbt
         generalize ns.getD 1 0 = v at *
         generalize Ho.sm ns 1 = S at *
         repeat' first|simp (disch:=first|omega|assumption|decide) only[go_sem,hm,hz,ht,hr_,g55,g56,g57',g11,hix3,htl]|(apply ifP_in<;>intro)
         exact ⟨1 + 1, ⟨rfl, congrArg AV.i (by rw [hsm]; omega), by omega, hbt, by rw [hsm]; omega, by rw [hsm]; omega⟩, by omega⟩
      ·have : i = 2 := by omega
       subst this
       rw [if_neg (by rw [hbf]; simp)]
       repeat' first|simp (disch:=first|omega|assumption|decide) only[go_sem,hm,hz,ht,hr_,g55,g56,g57,g11]|(apply ifP_in<;>intro)
   ·have hLi : (ns.length : Int) = 4 := by omega
    have hik := ix_int (l := ns) (i := 3) (by omega)
    have hbk := hbd 3
    have hp : Ho.p4n ns = if 256 ≤ ns.getD 3 0 ∨ Ho.big ns 3 = true then (0, 1) else (ns.getD 3 0 + Ho.sm ns 3, 0) := by unfold Ho.p4n; rw [hL]; rfl
    rw [hp]
    simp only [Int.natCast_zero, Int.natCast_one, Int.cast_ofNat_Int] at hik
    by_cases hbig : 256 ≤ ns.getD 3 0
    ·rw [if_pos (.inl hbig)]
     generalize ns.getD 3 0 = z at *
     repeat' first|simp (disch:=first|omega|assumption|decide) only[go_sem,hm,hz,ht,hr_,g22,g23,g24,g5,hLi,hik]|(apply ifP_in<;>intro)
    ·have hp2 : (if 256 ≤ ns.getD 3 0 ∨ Ho.big ns 3 = true then ((0 : Int), (1 : Int)) else (ns.getD 3 0 + Ho.sm ns 3, 0)) = if Ho.big ns 3 = true then (0, 1) else (ns.getD 3 0 + Ho.sm ns 3, 0) := by
      congr 1
      exact propext ⟨fun h => h.resolve_left hbig, .inr⟩
     rw [hp2]
     obtain ⟨z, hz'⟩ : ∃ z, z = ns.getD 3 0 := ⟨_, rfl⟩
     rw [← hz'] at hik hbig hbk ⊢
     repeat' first|simp (disch:=first|omega|assumption|decide) only[go_sem,hm,hz,ht,hr_,g22,g23,g24,g5,hLi,hik]|(apply ifP_in<;>intro)
     refine rL_loop (σ := Nat) (fun i e K => K = H' ∧ e 55 = .sl ((ns.take 3).map iA) ∧ e 56 = .i 3 ∧ e 57 = .i i ∧ e 11 = .i (z + Ho.sm ns i) ∧ i ≤ 3 ∧ Ho.big ns i = false ∧ 0 ≤ Ho.sm ns i ∧ Ho.sm ns i ≤ i * 4294967296) (fun i => 3 - i) 0 ?_ ?_
     ·refine ⟨rfl, ?_, ?_, ?_, ?_, by omega, rfl, by simp [Ho.sm], by simp [Ho.sm]⟩
      all_goals first | (simp (disch := first | assumption | omega) only [go_sem, hLi, hik, g5]; done) | (simp (disch := first | assumption | omega) only [go_sem, hLi, hik, g5]; rfl) | (simp [Ho.sm, hik, g5, hLi, go_sem]; done) | (simp [Ho.sm, hik, g5, hLi, go_sem]; omega)
     ·clear g22 g23 g24 g5
      rintro i e K ⟨rfl, g55, g56, g57, g11, i2, hbf, s0, s1⟩
      by_cases hi : i < 3
      ·have hbt := Ho.big_take (ns := ns) (i := i) (by omega)
       have hix2 : ix (ns.take 3) (i : Int) = ns.getD i 0 := by
        rw [ix_int (by simp; omega)]
        simp [xgD, List.getElem?_take, hi]
       have hvb := hbd i
       have htl : (ns.take 3).length = 3 := by simp; omega
       rcases (by omega : i = 0 ∨ i = 1 ∨ i = 2) with rfl | rfl | rfl
       ·have g57' : e 57 = .i (0 : Int) := g57
        have hix3 : ix (ns.take 3) (0 : Int) = ns.getD 0 0 := hix2
        have hsm : Ho.sm ns (0 + 1) = Ho.sm ns 0 + ns.getD 0 0 * 16777216 := rfl
        have s1' : Ho.sm ns 0 ≤ 0 := s1
        by_cases hv : 255 < ns.getD 0 0
        ·rw [decide_eq_true hv, Bool.or_true] at hbt
         rw [if_pos (Ho.big_mono (by omega) hbt)]
         clear hbt hsm
         generalize ns.getD 0 0 = v at *
         repeat' first|simp (disch:=first|omega|assumption|decide) only[go_sem,hm,hz,ht,hr_,g55,g56,g57',g11,hix3,htl]|(apply ifP_in<;>intro)
        ·rw [decide_eq_false hv, hbf] at hbt
         generalize ns.getD 0 0 = v at *
         generalize Ho.sm ns 0 = S at *
         repeat' first|simp (disch:=first|omega|assumption|decide) only[go_sem,hm,hz,ht,hr_,g55,g56,g57',g11,hix3,htl]|(apply ifP_in<;>intro)
         exact ⟨0 + 1, ⟨rfl, congrArg AV.i (by rw [hsm]; omega), by omega, hbt, by rw [hsm]; omega, by rw [hsm]; omega⟩, by omega⟩
       ·have g57' : e 57 = .i (1 : Int) := g57
        have hix3 : ix (ns.take 3) (1 : Int) = ns.getD 1 0 := hix2
        have hsm : Ho.sm ns (1 + 1) = Ho.sm ns 1 + ns.getD 1 0 * 65536 := rfl
        have s1' : Ho.sm ns 1 ≤ 4294967296 := s1
        by_cases hv : 255 < ns.getD 1 0
        ·rw [decide_eq_true hv, Bool.or_true] at hbt
         rw [if_pos (Ho.big_mono (by omega) hbt)]
         clear hbt hsm
         generalize ns.getD 1 0 = v at *
         repeat' first|simp (disch:=first|omega|assumption|decide) only[go_sem,hm,hz,ht,hr_,g55,g56,g57',g11,hix3,htl]|(apply ifP_in<;>intro)
        ·rw [decide_eq_false hv, hbf] at hbt
         generalize ns.getD 1 0 = v at *
         generalize Ho.sm ns 1 = S at *
         repeat' first|simp (disch:=first|omega|assumption|decide) only[go_sem,hm,hz,ht,hr_,g55,g56,g57',g11,hix3,htl]|(apply ifP_in<;>intro)
         exact ⟨1 + 1, ⟨rfl, congrArg AV.i (by rw [hsm]; omega), by omega, hbt, by rw [hsm]; omega, by rw [hsm]; omega⟩, by omega⟩
       ·have g57' : e 57 = .i (2 : Int) := g57
        have hix3 : ix (ns.take 3) (2 : Int) = ns.getD 2 0 := hix2
        have hsm : Ho.sm ns (2 + 1) = Ho.sm ns 2 + ns.getD 2 0 * 256 := rfl
        have s1' : Ho.sm ns 2 ≤ 8589934592 := s1
        by_cases hv : 255 < ns.getD 2 0
        ·rw [decide_eq_true hv, Bool.or_true] at hbt
         rw [if_pos (Ho.big_mono (by omega) hbt)]
         clear hbt hsm
         generalize ns.getD 2 0 = v at *
         repeat' first|simp (disch:=first|omega|assumption|decide) only[go_sem,hm,hz,ht,hr_,g55,g56,g57',g11,hix3,htl]|(apply ifP_in<;>intro)
        ·rw [decide_eq_false hv, hbf] at hbt
         generalize ns.getD 2 0 = v at *
         generalize Ho.sm ns 2 = S at *
         repeat' first|simp (disch:=first|omega|assumption|decide) only[go_sem,hm,hz,ht,hr_,g55,g56,g57',g11,hix3,htl]|(apply ifP_in<;>intro)
         exact ⟨2 + 1, ⟨rfl, congrArg AV.i (by rw [hsm]; omega), by omega, hbt, by rw [hsm]; omega, by rw [hsm]; omega⟩, by omega⟩
      ·have : i = 3 := by omega
       subst this
       rw [if_neg (by rw [hbf]; simp)]
       repeat' first|simp (disch:=first|omega|assumption|decide) only[go_sem,hm,hz,ht,hr_,g55,g56,g57,g11]|(apply ifP_in<;>intro)
end Hs
end Go.Proofs
set_option linter.unusedVariables false
set_option linter.unusedSimpArgs false
namespace Ho
open Go
def octOK (y : List UInt8) : Bool := decide (y ≠ [] ∧ y.length ≤ 3 ∧ digs 10 y = true ∧ ¬ (1 < y.length ∧ y.getD 0 0 = 48) ∧ num 10 y ≤ 255)
def oct (y : List UInt8) : Option Int := if octOK y = true then some (num 10 y) else none
theorem num_nonneg {base : Int} (hb : 1 ≤ base) {s : List UInt8} (hd : digs base s = true) : 0 ≤ num base s := (capn_min (C := 0) (by omega) hb s 0 0 (by omega) (by omega) hd).2
def ofold : List (List UInt8) → Int → Option Int
 | [], n => some n
 | y :: r, n => (oct y).bind fun v => ofold r (n * 256 + v)
def four (x : List UInt8) : Option (List Int) := if (Sp.split 46 x).length = 4 then (ofold (Sp.split 46 x) 0).map fun n => [n / 65536, n % 65536] else none
def hexg (x : List UInt8) : Option Int := if x ≠ [] ∧ x.length ≤ 4 ∧ digs 16 x = true then some (num 16 x) else none
def grp (e : Bool) : List (List UInt8) → Option (List Int)
 | [] => some []
 | [x] => if e = true ∧ 46 ∈ x then four x else (hexg x).map fun v => [v]
 | x :: y :: r => (hexg x).bind fun v => (grp e (y :: r)).map (v :: ·)
def list6 (e : Bool) (s : List UInt8) : Option (List Int) := if s = [] then some [] else grp e (Sp.split 58 s)
theorem grp_step {e : Bool} {p : List (List UInt8)} {i : Nat} (h : i + 1 < p.length) : grp e (p.drop i) = (hexg p[i]).bind fun v => (grp e (p.drop (i + 1))).map (v :: ·) := by
 rw [List.drop_eq_getElem_cons (show i < p.length by omega), List.drop_eq_getElem_cons h, grp]
theorem grp_last {e : Bool} {p : List (List UInt8)} {i : Nat} (h : i + 1 = p.length) : grp e (p.drop i) = if e = true ∧ 46 ∈ p[i] then four p[i] else (hexg p[i]).map fun v => [v] := by
 rw [List.drop_eq_getElem_cons (show i < p.length by omega), List.drop_of_length_le (show p.length ≤ i + 1 by omega), grp]
theorem ofold_step {q : List (List UInt8)} {i : Nat} (h : i < q.length) (n : Int) : ofold (q.drop i) n = (oct q[i]).bind fun v => ofold (q.drop (i + 1)) (n * 256 + v) := by
 rw [List.drop_eq_getElem_cons h, ofold]
theorem ofold_end {q : List (List UInt8)} (n : Int) : ofold (q.drop q.length) n = some n := by rw [List.drop_length, ofold]
theorem hexg_bnd {x : List UInt8} {v : Int} (h : hexg x = some v) : 0 ≤ v ∧ v < 65536 := by
 unfold hexg at h
 split at h
 ·rename_i hc
  injection h with h; subst h
  obtain ⟨h0, h4, hd⟩ := hc
  refine ⟨num_nonneg (by omega) hd, ?_⟩
  have key : ∀ (s : List UInt8) (n : Int), 0 ≤ n → digs 16 s = true → s.foldl (fun n c => n * 16 + dig c) n < (n + 1) * 16 ^ s.length := by
   intro s
   induction s with
   | nil => intro n h0 _; simp; omega
   | cons c s ih =>
    intro n h0 hd
    unfold digs at hd
    rw [List.all_cons, Bool.and_eq_true] at hd
    have hc := of_decide_eq_true hd.1
    rw [List.foldl_cons]
    have h1 := ih (n * 16 + dig c) (by omega) hd.2
    have h2 : (n * 16 + dig c + 1) * 16 ^ s.length ≤ ((n + 1) * 16) * 16 ^ s.length := Int.mul_le_mul_of_nonneg_right (by omega) (Int.pow_nonneg (by omega))
    rw [List.length_cons, Int.pow_succ', ← Int.mul_assoc]
    omega
  have := key x 0 (by omega) hd
  have h3 : (16 : Int) ^ x.length ≤ 16 ^ 4 := by
   have := Nat.pow_le_pow_right (n := 16) (by omega) h4
   exact_mod_cast this
  unfold num
  omega
 ·cases h
end Ho
/- Walks: pieces of an address. -/
set_option linter.unusedVariables false
set_option linter.unusedSimpArgs false
namespace Go.Proofs
open Go.Lv
namespace Hs
open Pu Ut Utf
variable {H : Heap}
abbrev uA : Int → AV := fun n => .v (.int .u16 n)
instance : CellsN (fun n : Int => AV.v (.int .u16 n)) 1 := ⟨fun _ => rfl⟩
instance : OneOK (fun n : Int => AV.v (.int .u16 n)) := ⟨fun _ => rfl⟩
instance : Cell1 (fun n : Int => AV.v (.int .u16 n)) := ⟨fun _ => rfl, fun _ => rfl⟩
theorem wrapU (a : Int) : IntKind.u16.wrap a = a % 65536 := by
 unfold IntKind.wrap
 simp [IntKind.bits, IntKind.signed]
theorem four_w (x : List UInt8) (hx : x.length ≤ 1000000) : WF Tryz.prog cfg 85 [.str x] H (fun r H' => (∃ l ok, r = .tup [.sl (l.map uA), .b ok] ∧ l.length ≤ 2 ∧ Ho.four x = if ok = true then some l else none) ∧ H' = H) := by
 have hm : ∀ d, cfg.muF 85 d = (false) := fun _ => rfl
 have hz : ∀ d, cfg.fzF 85 d = (false) := fun _ => rfl
 have ht : ∀ d, cfg.tkF 85 d = (false) := fun _ => rfl
 have hr_ : ∀ g, cfg.raw g = (g == 152 || g == 118) := fun _ => rfl
 refine rF_fn rfl rfl Tryz.func85 rfl ?_
 have hf4 : Ho.four x = if (Sp.split 46 x).length = 4 then (Ho.ofold (Sp.split 46 x) 0).map fun n => [n / 65536, n % 65536] else none := rfl
 rw [hf4]
 have hpm := Sp.split_part_len (c := (46 : UInt8)) x
 have hle := Sp.split_len_le (c := (46 : UInt8)) x
 have hsp : ∀ {Q : K (AV → Heap → Prop)}, @rF Tryz.prog cfg 84 [.str x, .str [46]] H Q = Q.v (.sl ((Sp.split 46 x).map AV.str)) H := split_we x 46 hx
 generalize Sp.split 46 x = q at *
 clear hf4
 by_cases h4 : q.length = 4
 ·rw [if_pos h4]
  repeat' first|simp (disch:=first|omega|assumption|decide) only[go_sem,hm,hz,ht,hr_,hsp]|(apply ifP_in<;>intro)
  refine rL_loop (σ := Nat × Int) (fun z e H' => H' = H ∧ e 15 = .sl (q.map AV.str) ∧ e 16 = .i q.length ∧ e 17 = .i z.1 ∧ e 5 = .i z.2 ∧ z.1 ≤ q.length ∧ 0 ≤ z.2 ∧ ((z.1 = 0 ∧ z.2 < 1) ∨ (z.1 = 1 ∧ z.2 < 256) ∨ (z.1 = 2 ∧ z.2 < 65536) ∨ (z.1 = 3 ∧ z.2 < 16777216) ∨ (z.1 = 4 ∧ z.2 < 4294967296)) ∧ Ho.ofold q 0 = Ho.ofold (q.drop z.1) z.2) (fun z => q.length - z.1) (0, 0) ?_ ?_
  ·refine ⟨rfl, ?_, ?_, ?_, ?_, by simp, by simp, .inl ⟨rfl, by simp⟩, rfl⟩
   all_goals first | (simp (disch := first | assumption | omega) only [go_sem]; done) | (simp (disch := first | assumption | omega) only [go_sem]; rfl)
  ·rintro ⟨i, n⟩ e H' ⟨rfl, g15, g16, g17, g5, i1, n0, n1, hf⟩
   simp only at g17 g5 i1 n0 n1 hf
   by_cases hi : i < q.length
   ·have hix := ix_at hi
    have hst := Ho.ofold_step hi n
    have hyl := hpm _ (List.getElem_mem hi)
    rw [hst] at hf
    generalize q[i] = y at *
    have hyl2 : y.length ≤ 1000000 := by omega
    have hno : Ho.octOK y = false → (Ho.ofold q 0).map (fun n => [n / 65536, n % 65536]) = none := fun h => by rw [hf]; unfold Ho.oct; rw [h]; rfl
    have hyes : Ho.octOK y = true → Ho.ofold q 0 = Ho.ofold (q.drop (i + 1)) (n * 256 + Ho.num 10 y) := fun h => by rw [hf]; unfold Ho.oct; rw [h]; rfl
    by_cases c1 : y = []
    ·rw [hno (decide_eq_false fun h => h.1 c1)]
     subst c1
     have hd0 : Ho.digs 10 ([] : List UInt8) = true := rfl
     repeat' first|simp (disch:=first|omega|assumption|decide) only[go_sem,hm,hz,ht,hr_,g15,g16,g17,g5,hix,number_e,hd0]|(apply ifP_in<;>intro)
     exact ⟨[], false, rfl, by simp, rfl⟩
    have hypos : 0 < y.length := List.length_pos_iff.2 c1
    cases c0 : Ho.digs 10 y with
    | false =>
     rw [hno (decide_eq_false fun h => by rw [h.2.2.1] at c0; cases c0)]
     repeat' first|simp (disch:=first|omega|assumption|decide) only[go_sem,hm,hz,ht,hr_,g15,g16,g17,g5,hix,number_e,c0]|(apply ifP_in<;>intro)
     exact ⟨[], false, rfl, by simp, rfl⟩
    | true =>
    have hvn := Ho.capn_eq (C := 8589934592) (base := 10) (by omega) (by omega) c0
    have hv0 := Ho.num_nonneg (base := 10) (by omega) c0
    have hnum : ∀ {Q : K (AV → Heap → Prop)} {H : Heap}, @rF Tryz.prog cfg 63 [.str y, .i 10] H Q = Q.v (.tup [.i (min (Ho.num 10 y) 8589934592), .b true]) H := by
     intro Q H
     rw [number_e y 10 (by omega) hyl2, c0, if_pos rfl, hvn]
    have hoc : Ho.octOK y = decide (y ≠ [] ∧ y.length ≤ 3 ∧ Ho.digs 10 y = true ∧ ¬ (1 < y.length ∧ y.getD 0 0 = 48) ∧ Ho.num 10 y ≤ 255) := rfl
    have hix0 : ix y 0 = y.getD 0 0 := ix_get (i := 0) hypos
    generalize Ho.num 10 y = v at *
    by_cases c2 : 3 < y.length
    ·rw [hno (by rw [hoc]; exact decide_eq_false fun h => by omega)]
     repeat' first|simp (disch:=first|omega|assumption|decide) only[go_sem,hm,hz,ht,hr_,g15,g16,g17,g5,hix,hnum]|(apply ifP_in<;>intro)
     exact ⟨[], false, rfl, by simp, rfl⟩
    by_cases c3 : 1 < y.length
    ·by_cases c4 : y.getD 0 0 = 48
     ·rw [hno (by rw [hoc]; exact decide_eq_false fun h => h.2.2.2.1 ⟨c3, c4⟩)]
      rw [c4] at hix0
      repeat' first|simp (disch:=first|omega|assumption|decide) only[go_sem,hm,hz,ht,hr_,g15,g16,g17,g5,hix,hnum,hix0]|(apply ifP_in<;>intro)
      exact ⟨[], false, rfl, by simp, rfl⟩
     ·have hcn : ¬ (y.getD 0 0).toNat = 48 := fun h => c4 (UInt8.toNat.inj h)
      generalize y.getD 0 0 = c at *
      have hci : ¬ ((c.toNat : Int) = 48) := by omega
      by_cases c5 : 255 < v
      ·rw [hno (by rw [hoc]; exact decide_eq_false fun h => by omega)]
       repeat' first|simp (disch:=first|omega|assumption|decide) only[go_sem,hm,hz,ht,hr_,g15,g16,g17,g5,hix,hnum,hix0]|(apply ifP_in<;>intro)
       exact ⟨[], false, rfl, by simp, rfl⟩
      ·have hy := hyes (by rw [hoc]; exact decide_eq_true ⟨c1, by omega, c0, fun h => c4 h.2, by omega⟩)
       have hmin : min v 8589934592 = v := by omega
       have hn2 : n < 4294967296 := by omega
       repeat' first|simp (disch:=first|omega|assumption|decide) only[go_sem,hm,hz,ht,hr_,g15,g16,g17,g5,hix,hnum,hix0,hmin,bin_orI,Ho.or256]|(apply ifP_in<;>intro)
       exact ⟨(i + 1, n * 256 + v), ⟨rfl, rfl, by simp only; omega, by simp only; omega, by simp only; omega, hy⟩, by simp only; omega⟩
    ·by_cases c5 : 255 < v
     ·rw [hno (by rw [hoc]; exact decide_eq_false fun h => by omega)]
      repeat' first|simp (disch:=first|omega|assumption|decide) only[go_sem,hm,hz,ht,hr_,g15,g16,g17,g5,hix,hnum,hix0]|(apply ifP_in<;>intro)
      exact ⟨[], false, rfl, by simp, rfl⟩
     ·have hy := hyes (by rw [hoc]; exact decide_eq_true ⟨c1, by omega, c0, fun h => c3 h.1, by omega⟩)
      have hmin : min v 8589934592 = v := by omega
      have hn2 : n < 4294967296 := by omega
      repeat' first|simp (disch:=first|omega|assumption|decide) only[go_sem,hm,hz,ht,hr_,g15,g16,g17,g5,hix,hnum,hix0,hmin,bin_orI,Ho.or256]|(apply ifP_in<;>intro)
      exact ⟨(i + 1, n * 256 + v), ⟨rfl, rfl, by simp only; omega, by simp only; omega, by simp only; omega, hy⟩, by simp only; omega⟩
   ·have : i = q.length := by omega
    subst this
    rw [Ho.ofold_end] at hf
    rw [hf]
    have hn2 : n < 4294967296 := by omega
    have hw1 : IntKind.u16.wrap (n / 65536) = n / 65536 := by rw [wrapU]; omega
    repeat' first|simp (disch:=first|omega|assumption|decide) only[go_sem,hm,hz,ht,hr_,g15,g16,g17,g5,wrapU,hw1]|(apply ifP_in<;>intro)
    exact ⟨[n / 65536, n % 65536], true, rfl, by simp, rfl⟩
 ·rw [if_neg h4]
  repeat' first|simp (disch:=first|omega|assumption|decide) only[go_sem,hm,hz,ht,hr_,hsp]|(apply ifP_in<;>intro)
  exact ⟨[], false, rfl, by simp, rfl⟩
theorem index_mem (c : UInt8) : ∀ l : List UInt8, (0 ≤ Lib.indexByte l c) ↔ c ∈ l := by
 intro l
 induction l with
 | nil => simp [Lib.indexByte]
 | cons b l ih =>
  have hg := Lib.indexByte_ge l c
  unfold Lib.indexByte
  by_cases hb : b = c
  ·subst hb; simp
  ·rw [if_neg (by simpa using hb), List.mem_cons]
   by_cases h1 : Lib.indexByte l c = -1
   ·rw [if_pos (by simpa using h1)]
    rw [h1] at ih
    constructor
    ·intro h; omega
    ·rintro (h | h)
     ·exact absurd h.symm hb
     ·exact absurd (ih.2 h) (by omega)
   ·rw [if_neg (by simpa using h1)]
    constructor
    ·intro h; exact .inr (ih.1 (by omega))
    ·rintro (h | h)
     ·exact absurd h.symm hb
     ·have := ih.2 h; omega
theorem list_w (s : List UInt8) (en : Bool) (hs : s.length ≤ 1000000) : WF Tryz.prog cfg 56 [.str s, .b en] H (fun r H' => (∃ l ok, r = .tup [.sl (l.map uA), .b ok] ∧ l.length ≤ 1000010 ∧ Ho.list6 en s = if ok = true then some l else none) ∧ H' = H) := by
 have hm : ∀ d, cfg.muF 56 d = (false) := fun _ => rfl
 have hz : ∀ d, cfg.fzF 56 d = (false) := fun _ => rfl
 have ht : ∀ d, cfg.tkF 56 d = (false) := fun _ => rfl
 have hr_ : ∀ g, cfg.raw g = (g == 152 || g == 118) := fun _ => rfl
 refine rF_fn rfl rfl Tryz.func56 rfl ?_
 by_cases h0 : s = []
 ·subst h0
  repeat' first|simp (disch:=first|omega|assumption|decide) only[go_sem,hm,hz,ht,hr_]|(apply ifP_in<;>intro)
  exact ⟨[], true, rfl, by simp, rfl⟩
 have hl6 : Ho.list6 en s = Ho.grp en (Sp.split 58 s) := if_neg h0
 rw [hl6]
 clear hl6
 have hpm := Sp.split_part_len (c := (58 : UInt8)) s
 have hle := Sp.split_len_le (c := (58 : UInt8)) s
 have hsp : ∀ {Q : K (AV → Heap → Prop)}, @rF Tryz.prog cfg 84 [.str s, .str [58]] H Q = Q.v (.sl ((Sp.split 58 s).map AV.str)) H := split_we s 58 hs
 have hpos : 0 < (Sp.split (58 : UInt8) s).length := Sp.split_pos s
 generalize Sp.split 58 s = p at *
 obtain ⟨G, hG⟩ : ∃ G, G = Ho.grp en p := ⟨_, rfl⟩
 rw [← hG]
 repeat' first|simp (disch:=first|omega|assumption|decide) only[go_sem,hm,hz,ht,hr_,hsp]|(apply ifP_in<;>intro)
 refine rL_loop (σ := Nat × List Int) (fun z e H' => H' = H ∧ e 18 = .sl (p.map AV.str) ∧ e 19 = .i p.length ∧ e 20 = .i z.1 ∧ e 1 = .b en ∧ e 7 = .sl (p.map AV.str) ∧ e 6 = .sl (z.2.map uA) ∧ z.1 ≤ p.length ∧ z.2.length = z.1 ∧ (z.1 < p.length → G = (Ho.grp en (p.drop z.1)).map (z.2 ++ ·)) ∧ (z.1 = p.length → G = some z.2)) (fun z => p.length - z.1) (0, []) ?_ ?_
 ·refine ⟨rfl, ?_, ?_, ?_, ?_, ?_, ?_, by simp, by simp, fun _ => by rw [hG]; simp, fun h => by simp only at h; omega⟩
  all_goals first | (simp (disch := first | assumption | omega) only [go_sem]; done) | (simp (disch := first | assumption | omega) only [go_sem]; rfl)
 ·rintro ⟨i, o⟩ e H' ⟨rfl, g18, g19, g20, g1, g7, g6, i1, io, hg, hge⟩
  simp only at g20 g6 i1 io hg hge
  by_cases hi : i < p.length
  ·have hix := ix_at hi
   have hg := hg hi
   have hxl := hpm _ (List.getElem_mem hi)
   have hol : o.length ≤ 1000005 := by omega
   by_cases hlast : i + 1 = p.length
   ·have hst := Ho.grp_last (e := en) hlast
    rw [hst] at hg
    generalize p[i] = x at *
    have hxl2 : x.length ≤ 1000000 := by omega
    have him := index_mem 46 x
    by_cases hdot : 46 ∈ x
    ·have hin : 0 ≤ Lib.indexByte x 46 := him.2 hdot
     have DOT : (46 : Int).toNat.toUInt8 = 46 := rfl
     cases en with
     | true =>
      rw [if_pos ⟨rfl, hdot⟩] at hg
      repeat' first|simp (disch:=first|omega|assumption|decide) only[go_sem,hm,hz,ht,hr_,g18,g19,g20,g1,g7,g6,hix,indexByte_we,DOT]|(apply ifP_in<;>intro)
      refine rF_use (four_w x hxl2) ?_
      rintro _ H1 ⟨⟨l, ok, rfl, hl2, hfo⟩, rfl⟩
      rw [hfo] at hg
      repeat' first|simp (disch:=first|omega|assumption|decide) only[go_sem,hm,hz,ht,hr_,g18,g19,g20,g1,g7,g6,hix]|(apply ifP_in<;>intro)
      refine ⟨o ++ l, ok, rfl, by simp; omega, ?_⟩
      rw [hg]
      cases ok <;> rfl
     | false =>
      rw [if_neg (by simp)] at hg
      have hno : Ho.hexg x = none → G = none := fun h => by rw [hg, h]; rfl
      have hyes : ∀ v, Ho.hexg x = some v → G = some (o ++ [v]) := fun v h => by rw [hg, h]; rfl
      by_cases c1 : x = []
      ·rw [hno (if_neg fun h => h.1 c1)]
       subst c1
       have hd0 : Ho.digs 16 ([] : List UInt8) = true := rfl
       repeat' first|simp (disch:=first|omega|assumption|decide) only[go_sem,hm,hz,ht,hr_,g18,g19,g20,g1,g7,g6,hix,number_e,hd0,indexByte_we,DOT]|(apply ifP_in<;>intro)
       exact ⟨[], false, rfl, by simp, rfl⟩
      cases c0 : Ho.digs 16 x with
      | false =>
       rw [hno (if_neg fun h => by rw [h.2.2] at c0; cases c0)]
       repeat' first|simp (disch:=first|omega|assumption|decide) only[go_sem,hm,hz,ht,hr_,g18,g19,g20,g1,g7,g6,hix,number_e,c0,indexByte_we,DOT]|(apply ifP_in<;>intro)
       exact ⟨[], false, rfl, by simp, rfl⟩
      | true =>
      have hnum : ∀ {Q : K (AV → Heap → Prop)} {H : Heap}, @rF Tryz.prog cfg 63 [.str x, .i 16] H Q = Q.v (.tup [.i (min (Ho.num 16 x) 8589934592), .b true]) H := by
       intro Q H
       rw [number_e x 16 (by omega) hxl2, c0, if_pos rfl, Ho.capn_eq (by omega) (by omega) c0]
      by_cases c2 : 4 < x.length
      ·rw [hno (if_neg fun h => by omega)]
       repeat' first|simp (disch:=first|omega|assumption|decide) only[go_sem,hm,hz,ht,hr_,g18,g19,g20,g1,g7,g6,hix,hnum,indexByte_we,DOT]|(apply ifP_in<;>intro)
       exact ⟨[], false, rfl, by simp, rfl⟩
      have hx2 : Ho.hexg x = some (Ho.num 16 x) := if_pos ⟨c1, by omega, c0⟩
      have hvb := Ho.hexg_bnd hx2
      have hy := hyes _ hx2
      generalize Ho.num 16 x = v at *
      have hmin : min v 8589934592 = v := by omega
      have hw : v % 65536 = v := by omega
      repeat' first|simp (disch:=first|omega|assumption|decide) only[go_sem,hm,hz,ht,hr_,g18,g19,g20,g1,g7,g6,hix,hnum,hmin,wrapU,hw,indexByte_we,DOT]|(apply ifP_in<;>intro)
      exact ⟨(i + 1, o ++ [v]), ⟨rfl, rfl, by simp only; omega, by simp [io], fun h => by simp only at h; omega, fun _ => hy⟩, by simp only; omega⟩
    ·have hin : ¬ 0 ≤ Lib.indexByte x 46 := fun h => hdot (him.1 h)
     have DOT : (46 : Int).toNat.toUInt8 = 46 := rfl
     rw [if_neg (fun h => hdot h.2)] at hg
     have hno : Ho.hexg x = none → G = none := fun h => by rw [hg, h]; rfl
     have hyes : ∀ v, Ho.hexg x = some v → G = some (o ++ [v]) := fun v h => by rw [hg, h]; rfl
     cases en with
     | true =>
      by_cases c1 : x = []
      ·rw [hno (if_neg fun h => h.1 c1)]
       subst c1
       have hd0 : Ho.digs 16 ([] : List UInt8) = true := rfl
       repeat' first|simp (disch:=first|omega|assumption|decide) only[go_sem,hm,hz,ht,hr_,g18,g19,g20,g1,g7,g6,hix,number_e,hd0,indexByte_we,DOT]|(apply ifP_in<;>intro)
       exact ⟨[], false, rfl, by simp, rfl⟩
      cases c0 : Ho.digs 16 x with
      | false =>
       rw [hno (if_neg fun h => by rw [h.2.2] at c0; cases c0)]
       repeat' first|simp (disch:=first|omega|assumption|decide) only[go_sem,hm,hz,ht,hr_,g18,g19,g20,g1,g7,g6,hix,number_e,c0,indexByte_we,DOT]|(apply ifP_in<;>intro)
       exact ⟨[], false, rfl, by simp, rfl⟩
      | true =>
      have hnum : ∀ {Q : K (AV → Heap → Prop)} {H : Heap}, @rF Tryz.prog cfg 63 [.str x, .i 16] H Q = Q.v (.tup [.i (min (Ho.num 16 x) 8589934592), .b true]) H := by
       intro Q H
       rw [number_e x 16 (by omega) hxl2, c0, if_pos rfl, Ho.capn_eq (by omega) (by omega) c0]
      by_cases c2 : 4 < x.length
      ·rw [hno (if_neg fun h => by omega)]
       repeat' first|simp (disch:=first|omega|assumption|decide) only[go_sem,hm,hz,ht,hr_,g18,g19,g20,g1,g7,g6,hix,hnum,indexByte_we,DOT]|(apply ifP_in<;>intro)
       exact ⟨[], false, rfl, by simp, rfl⟩
      have hx2 : Ho.hexg x = some (Ho.num 16 x) := if_pos ⟨c1, by omega, c0⟩
      have hvb := Ho.hexg_bnd hx2
      have hy := hyes _ hx2
      generalize Ho.num 16 x = v at *
      have hmin : min v 8589934592 = v := by omega
      have hw : v % 65536 = v := by omega
      repeat' first|simp (disch:=first|omega|assumption|decide) only[go_sem,hm,hz,ht,hr_,g18,g19,g20,g1,g7,g6,hix,hnum,hmin,wrapU,hw,indexByte_we,DOT]|(apply ifP_in<;>intro)
      exact ⟨(i + 1, o ++ [v]), ⟨rfl, rfl, by simp only; omega, by simp [io], fun h => by simp only at h; omega, fun _ => hy⟩, by simp only; omega⟩
     | false =>
      by_cases c1 : x = []
      ·rw [hno (if_neg fun h => h.1 c1)]
       subst c1
       have hd0 : Ho.digs 16 ([] : List UInt8) = true := rfl
       repeat' first|simp (disch:=first|omega|assumption|decide) only[go_sem,hm,hz,ht,hr_,g18,g19,g20,g1,g7,g6,hix,number_e,hd0,indexByte_we,DOT]|(apply ifP_in<;>intro)
       exact ⟨[], false, rfl, by simp, rfl⟩
      cases c0 : Ho.digs 16 x with
      | false =>
       rw [hno (if_neg fun h => by rw [h.2.2] at c0; cases c0)]
       repeat' first|simp (disch:=first|omega|assumption|decide) only[go_sem,hm,hz,ht,hr_,g18,g19,g20,g1,g7,g6,hix,number_e,c0,indexByte_we,DOT]|(apply ifP_in<;>intro)
       exact ⟨[], false, rfl, by simp, rfl⟩
      | true =>
      have hnum : ∀ {Q : K (AV → Heap → Prop)} {H : Heap}, @rF Tryz.prog cfg 63 [.str x, .i 16] H Q = Q.v (.tup [.i (min (Ho.num 16 x) 8589934592), .b true]) H := by
       intro Q H
       rw [number_e x 16 (by omega) hxl2, c0, if_pos rfl, Ho.capn_eq (by omega) (by omega) c0]
      by_cases c2 : 4 < x.length
      ·rw [hno (if_neg fun h => by omega)]
       repeat' first|simp (disch:=first|omega|assumption|decide) only[go_sem,hm,hz,ht,hr_,g18,g19,g20,g1,g7,g6,hix,hnum,indexByte_we,DOT]|(apply ifP_in<;>intro)
       exact ⟨[], false, rfl, by simp, rfl⟩
      have hx2 : Ho.hexg x = some (Ho.num 16 x) := if_pos ⟨c1, by omega, c0⟩
      have hvb := Ho.hexg_bnd hx2
      have hy := hyes _ hx2
      generalize Ho.num 16 x = v at *
      have hmin : min v 8589934592 = v := by omega
      have hw : v % 65536 = v := by omega
      repeat' first|simp (disch:=first|omega|assumption|decide) only[go_sem,hm,hz,ht,hr_,g18,g19,g20,g1,g7,g6,hix,hnum,hmin,wrapU,hw,indexByte_we,DOT]|(apply ifP_in<;>intro)
      exact ⟨(i + 1, o ++ [v]), ⟨rfl, rfl, by simp only; omega, by simp [io], fun h => by simp only at h; omega, fun _ => hy⟩, by simp only; omega⟩
   ·have hst := Ho.grp_step (e := en) (show i + 1 < p.length by omega)
    rw [hst] at hg
    generalize p[i] = x at *
    have hxl2 : x.length ≤ 1000000 := by omega
    have hno : Ho.hexg x = none → G = none := fun h => by rw [hg, h]; rfl
    have hyes : ∀ v, Ho.hexg x = some v → G = (Ho.grp en (p.drop (i + 1))).map ((o ++ [v]) ++ ·) := fun v h => by
     rw [hg, h, Option.bind_some, Option.map_map]
     congr 1
     funext l
     simp
    have DOT : (46 : Int).toNat.toUInt8 = 46 := rfl
    cases en with
    | true =>
     by_cases c1 : x = []
     ·rw [hno (if_neg fun h => h.1 c1)]
      subst c1
      have hd0 : Ho.digs 16 ([] : List UInt8) = true := rfl
      repeat' first|simp (disch:=first|omega|assumption|decide) only[go_sem,hm,hz,ht,hr_,g18,g19,g20,g1,g7,g6,hix,number_e,hd0,indexByte_we,DOT]|(apply ifP_in<;>intro)
      exact ⟨[], false, rfl, by simp, rfl⟩
     cases c0 : Ho.digs 16 x with
     | false =>
      rw [hno (if_neg fun h => by rw [h.2.2] at c0; cases c0)]
      repeat' first|simp (disch:=first|omega|assumption|decide) only[go_sem,hm,hz,ht,hr_,g18,g19,g20,g1,g7,g6,hix,number_e,c0,indexByte_we,DOT]|(apply ifP_in<;>intro)
      exact ⟨[], false, rfl, by simp, rfl⟩
     | true =>
     have hnum : ∀ {Q : K (AV → Heap → Prop)} {H : Heap}, @rF Tryz.prog cfg 63 [.str x, .i 16] H Q = Q.v (.tup [.i (min (Ho.num 16 x) 8589934592), .b true]) H := by
      intro Q H
      rw [number_e x 16 (by omega) hxl2, c0, if_pos rfl, Ho.capn_eq (by omega) (by omega) c0]
     by_cases c2 : 4 < x.length
     ·rw [hno (if_neg fun h => by omega)]
      repeat' first|simp (disch:=first|omega|assumption|decide) only[go_sem,hm,hz,ht,hr_,g18,g19,g20,g1,g7,g6,hix,hnum,indexByte_we,DOT]|(apply ifP_in<;>intro)
      exact ⟨[], false, rfl, by simp, rfl⟩
     have hx2 : Ho.hexg x = some (Ho.num 16 x) := if_pos ⟨c1, by omega, c0⟩
     have hvb := Ho.hexg_bnd hx2
     have hy := hyes _ hx2
     generalize Ho.num 16 x = v at *
     have hmin : min v 8589934592 = v := by omega
     have hw : v % 65536 = v := by omega
     repeat' first|simp (disch:=first|omega|assumption|decide) only[go_sem,hm,hz,ht,hr_,g18,g19,g20,g1,g7,g6,hix,hnum,hmin,wrapU,hw,indexByte_we,DOT]|(apply ifP_in<;>intro)
     exact ⟨(i + 1, o ++ [v]), ⟨rfl, rfl, by simp only; omega, by simp [io], fun _ => hy, fun h => by simp only at h; omega⟩, by simp only; omega⟩
    | false =>
     by_cases c1 : x = []
     ·rw [hno (if_neg fun h => h.1 c1)]
      subst c1
      have hd0 : Ho.digs 16 ([] : List UInt8) = true := rfl
      repeat' first|simp (disch:=first|omega|assumption|decide) only[go_sem,hm,hz,ht,hr_,g18,g19,g20,g1,g7,g6,hix,number_e,hd0,indexByte_we,DOT]|(apply ifP_in<;>intro)
      exact ⟨[], false, rfl, by simp, rfl⟩
     cases c0 : Ho.digs 16 x with
     | false =>
      rw [hno (if_neg fun h => by rw [h.2.2] at c0; cases c0)]
      repeat' first|simp (disch:=first|omega|assumption|decide) only[go_sem,hm,hz,ht,hr_,g18,g19,g20,g1,g7,g6,hix,number_e,c0,indexByte_we,DOT]|(apply ifP_in<;>intro)
      exact ⟨[], false, rfl, by simp, rfl⟩
     | true =>
     have hnum : ∀ {Q : K (AV → Heap → Prop)} {H : Heap}, @rF Tryz.prog cfg 63 [.str x, .i 16] H Q = Q.v (.tup [.i (min (Ho.num 16 x) 8589934592), .b true]) H := by
      intro Q H
      rw [number_e x 16 (by omega) hxl2, c0, if_pos rfl, Ho.capn_eq (by omega) (by omega) c0]
     by_cases c2 : 4 < x.length
     ·rw [hno (if_neg fun h => by omega)]
      repeat' first|simp (disch:=first|omega|assumption|decide) only[go_sem,hm,hz,ht,hr_,g18,g19,g20,g1,g7,g6,hix,hnum,indexByte_we,DOT]|(apply ifP_in<;>intro)
      exact ⟨[], false, rfl, by simp, rfl⟩
     have hx2 : Ho.hexg x = some (Ho.num 16 x) := if_pos ⟨c1, by omega, c0⟩
     have hvb := Ho.hexg_bnd hx2
     have hy := hyes _ hx2
     generalize Ho.num 16 x = v at *
     have hmin : min v 8589934592 = v := by omega
     have hw : v % 65536 = v := by omega
     repeat' first|simp (disch:=first|omega|assumption|decide) only[go_sem,hm,hz,ht,hr_,g18,g19,g20,g1,g7,g6,hix,hnum,hmin,wrapU,hw,indexByte_we,DOT]|(apply ifP_in<;>intro)
     exact ⟨(i + 1, o ++ [v]), ⟨rfl, rfl, by simp only; omega, by simp [io], fun _ => hy, fun h => by simp only at h; omega⟩, by simp only; omega⟩
  ·have : i = p.length := by omega
   have hge := hge this
   subst this
   rw [hge]
   repeat' first|simp (disch:=first|omega|assumption|decide) only[go_sem,hm,hz,ht,hr_,g18,g19,g20,g1,g7,g6]|(apply ifP_in<;>intro)
   exact ⟨o, true, rfl, by omega, rfl⟩
end Hs
end Go.Proofs
/- Walks: pieces of an address, the document's side. -/
set_option linter.unusedVariables false
set_option linter.unusedSimpArgs false
namespace Go.Proofs
open Go.Lv
namespace Hs
open Pu Ut Utf
variable {H : Heap}
end Hs
end Go.Proofs
