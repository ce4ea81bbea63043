/- A value semantics of the loaded code, its soundness, and walks through functions over it. -/
import Derived.Test.YtpbemfiedmfpiaaGreatDoorLvAll13
import Derived.Shelf.Strconv.Itoa3
import Derived.Shelf.Spec.TrailingZeros
set_option linter.unusedVariables false
set_option linter.unusedSimpArgs false
namespace Go.Lv
open Go.Proofs Go.Shelf
open Go.RowKit (Below)
section
variable {P : Program} {H : Heap}
def itoaT (H : Heap) : List AV → Option (AV × Heap)
 | [.v (.int .i64 n)] => if -9223372036854775808 ≤ n ∧ n ≤ 9223372036854775807 then some (.v (.string (mkB (Lib.itoa n))), H) else none
 | _ => none
theorem below_grow (w : World) (os : Array Obj) : Below w.heap.size w (Go.Sort.grow w os) :=
 ⟨rfl, rfl, rfl, by show w.heap.size ≤ (w.heap ++ os).size; rw [Array.size_append]; omega, fun k hk => by show (w.heap ++ os)[k]? = _; rw [Array.getElem?_append_left hk]⟩
theorem itoaT_ok {ρ : Ren} (hL : LaysM.n171 P ρ) (hp : (P.globalNamed "internal/strconv.uint64pow10").isSome = true) {args : List AV} {r : AV} {H' : Heap} (h : itoaT H args = some (r, H')) : CallOK P {} (ρ.f 171) args H r H' := by
 unfold itoaT at h
 split at h
 ·rename_i n
  split at h
  ·rename_i hn
   injection h with h; injection h with h1 h2; subst h1 h2
   refine scal_ok (xs := [.int .i64 n]) (fun F L => .sc _ rfl) fun w hG => ?_
   refine (Any.strconv_Itoa hL n hn.1 hn.2 w (hG.pow10 hp)).mono ?_
   rintro e w' ⟨h1, k, os, rfl⟩
   refine ⟨h1, (drewN_below w k).trans ?_⟩
   have hs : (w.drewN k).heap.size = w.heap.size := by
    have : ∀ (k : Nat) (w : World), (w.drewN k).heap.size = w.heap.size := by
     intro k
     induction k with
     | zero => intro w; rfl
     | succ k ih => intro w; exact ih _
    exact this k w
   have := below_grow (w.drewN k) os
   rwa [hs] at this
  ·cases h
 ·cases h
theorem itoa_at {P : Program} {C : Cfg} {f : FuncId} (he : C.ext f = some (fun args H => itoaT H args)) {n : Int} (h0 : -9223372036854775808 ≤ n) (h1 : n ≤ 9223372036854775807) {H : Heap} : WF P C f [.i n] H (fun r H' => r = AV.str (Lib.itoa n) ∧ H' = H) :=
 WF.ext he (by
  show (if -9223372036854775808 ≤ n ∧ n ≤ 9223372036854775807 then _ else _) = _
  rw [if_pos ⟨h0, h1⟩]; rfl) ⟨rfl, rfl⟩
def tzT (H : Heap) : List AV → Option (AV × Heap)
 | [.v (.int .u64 n)] => if 0 ≤ n ∧ n < 18446744073709551616 then some (.i (Lib.ctz 64 n.toNat : Nat), H) else none
 | _ => none
theorem tzT_ok {ρ : Ren} (hL : Lays7.n27 P ρ) (hg : P.globalNamed "math/bits.deBruijn64tab" = some (ρ.g 1)) {args : List AV} {r : AV} {H' : Heap} (h : tzT H args = some (r, H')) : CallOK P {} (ρ.f 27) args H r H' := by
 unfold tzT at h
 split at h
 ·rename_i n
  split at h
  ·rename_i hn
   injection h with h; injection h with h1 h2; subst h1 h2
   refine scal_ok (xs := [.int .u64 n]) (fun F L => .sc _ rfl) fun w hG => ?_
   have := Any7.bits_TrailingZeros hL n.toNat (by omega) w (fun _ => hG.deb _ hg)
   rw [Int.toNat_of_nonneg hn.1] at this
   exact this.mono fun e w' ⟨h1, h2⟩ => ⟨h1, h2 ▸ Below.refl _ _⟩
  ·cases h
 ·cases h
end
end Go.Lv
