/- A value semantics of the loaded code, its soundness, and walks through functions over it. -/
import Derived.Test.YtfkjkmjkfnephaaGreatDoorPunyAllax0
import Derived.Test.YtfkjkmjkfnephaaGreatDoorLvAll8
set_option linter.unusedVariables false
set_option linter.unusedSimpArgs false
namespace Utf
open Go
def orI (a b : Int) : Int := IntKind.i64.wrap ((BitVec.ofInt 64 a ||| BitVec.ofInt 64 b).toNat : Int)
def andI (a b : Int) : Int := IntKind.i64.wrap ((BitVec.ofInt 64 a &&& BitVec.ofInt 64 b).toNat : Int)
def toB (a : Int) : UInt8 := UInt8.ofNat (IntKind.u8.wrap a).toNat
def sgn (c : Int) : List UInt8 :=
 if c < 128 then [UInt8.ofNat c.toNat]
 else if c < 2048 then [toB (orI 192 (c / 64)), toB (orI 128 (andI c 63))]
 else if c < 65536 then [toB (orI 224 (c / 4096)), toB (orI 128 (andI (c / 64) 63)), toB (orI 128 (andI c 63))]
 else [toB (orI 240 (c / 262144)), toB (orI 128 (andI (c / 4096) 63)), toB (orI 128 (andI (c / 64) 63)), toB (orI 128 (andI c 63))]
def fix (c : Int) : Int := if Puny.scalar c = true then c else 65533
def text (l : List Int) : List UInt8 := l.flatMap fun c => sgn (fix c)
theorem wrap_u8 (a : Int) : IntKind.u8.wrap a = a % 256 := by
 unfold IntKind.wrap
 simp [IntKind.bits, IntKind.signed]
theorem fix_bnd (c : Int) : 0 ≤ fix c ∧ fix c ≤ 1114111 := by
 unfold fix
 split
 ·rename_i h; simp [Puny.scalar] at h; omega
 ·omega
def asc (l : List Int) : List UInt8 := l.map fun c => UInt8.ofNat c.toNat
theorem sgn_low {c : Int} (h : c < 128) : sgn c = [UInt8.ofNat c.toNat] := by unfold sgn; rw [if_pos h]
theorem fix_low {c : Int} (h0 : 0 ≤ c) (h : c < 128) : fix c = c := by
 unfold fix; rw [if_pos]; simp [Puny.scalar]; omega
theorem text_plain : ∀ {l : List Int}, (∀ c ∈ l, 0 ≤ c ∧ c < 128) → text l = asc l := by
 intro l
 induction l with
 | nil => intro _; rfl
 | cons c l ih =>
  intro h
  have hc := h c (by simp)
  have := ih fun x hx => h x (by simp [hx])
  unfold text asc at this ⊢
  rw [List.flatMap_cons, this, fix_low hc.1 hc.2, sgn_low hc.2]; rfl
theorem head192 : ∀ k : Fin 32, 128 ≤ (toB (orI 192 (k.val : Int))).toNat := by decide +kernel
theorem head224 : ∀ k : Fin 16, 128 ≤ (toB (orI 224 (k.val : Int))).toNat := by decide +kernel
theorem head240 : ∀ k : Fin 8, 128 ≤ (toB (orI 240 (k.val : Int))).toNat := by decide +kernel
theorem sgn_head {c : Int} (h : 128 ≤ c) (h2 : c ≤ 1114111) : ∃ b r, sgn c = b :: r ∧ 128 ≤ b.toNat := by
 unfold sgn
 rw [if_neg (by omega)]
 split
 ·refine ⟨_, _, rfl, ?_⟩
  have := head192 ⟨(c / 64).toNat, by omega⟩
  rw [show c / 64 = (((c / 64).toNat : Nat) : Int) by omega]; exact this
 ·split
  ·refine ⟨_, _, rfl, ?_⟩
   have := head224 ⟨(c / 4096).toNat, by omega⟩
   rw [show c / 4096 = (((c / 4096).toNat : Nat) : Int) by omega]; exact this
  ·refine ⟨_, _, rfl, ?_⟩
   have := head240 ⟨(c / 262144).toNat, by omega⟩
   rw [show c / 262144 = (((c / 262144).toNat : Nat) : Int) by omega]; exact this
theorem text_take_low : ∀ (p : List UInt8) (l : List Int), (∀ b ∈ p, b.toNat < 128) → ((text l).take p.length = p ↔ l.take p.length = p.map fun b => (b.toNat : Int)) := by
 intro p
 induction p with
 | nil => intro l _; simp
 | cons b p ih =>
  intro l hp
  have hb := hp b (by simp)
  have ih := fun l => ih l fun x hx => hp x (by simp [hx])
  cases l with
  | nil => simp [text]
  | cons c l =>
   have ht : text (c :: l) = sgn (fix c) ++ text l := by simp [text]
   rw [ht]
   by_cases hc : fix c < 128
   ·have hf := fix_bnd c
    have hcc : fix c = c := by
     unfold fix at hc ⊢
     split
     ·rfl
     ·rename_i h; rw [if_neg h] at hc; omega
    rw [hcc] at hc hf ⊢
    rw [sgn_low hc]
    simp only [List.singleton_append, List.length_cons, List.take_succ_cons, List.cons.injEq, List.map_cons, ih]
    refine and_congr_left fun _ => ?_
    constructor
    ·intro h
     rw [← h]
     simp [UInt8.toNat_ofNat']; omega
    ·intro h
     rw [h]; simp
   ·have hf := fix_bnd c
    obtain ⟨x, r, hx, hx2⟩ := sgn_head (c := fix c) (by omega) hf.2
    rw [hx]
    simp only [List.cons_append, List.length_cons, List.take_succ_cons, List.cons.injEq, List.map_cons]
    constructor
    ·rintro ⟨h, _⟩
     rw [h] at hx2; omega
    ·rintro ⟨h, _⟩
     exfalso
     have : fix c = c := by
      unfold fix
      rw [if_pos]
      rw [h]
      simp [Puny.scalar]; omega
     omega
end Utf
