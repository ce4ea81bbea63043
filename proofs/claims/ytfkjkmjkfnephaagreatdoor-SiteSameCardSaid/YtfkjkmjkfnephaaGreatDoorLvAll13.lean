/- A value semantics of the loaded code, its soundness, and walks through functions over it. -/
import Derived.Test.YtfkjkmjkfnephaaGreatDoorLvAll9
import Derived.Test.YtfkjkmjkfnephaaGreatDoorLvAll12
import Derived.Shelf.Strings.Split
import Derived.Shelf.Strings.Cut
import Derived.Shelf.Strings.Replace
import Derived.Shelf.Small.Strs
set_option linter.unusedVariables false
set_option linter.unusedSimpArgs false
namespace Go.Lv
open Go.Proofs Go.Shelf
open Go.RowKit (Below)
section
variable {P : Program} {F : Facts} {L : List Nat} {w : World} {H : Heap}
theorem scal_ok {f : FuncId} {xs : List Value} {r : AV} {rv : Value} (hr : ∀ F L, Rel F L r rv) (hc : ∀ w, GlobOK P w → Calls P f xs.toArray w fun e w' => e = .returned rv ∧ Below w.heap.size w w') : CallOK P {} f (xs.map .v) H r H := by
 intro F L w vs hS hvl hrel hown hglob
 have hv : vs = xs := by
  apply List.ext_getElem?
  intro i
  rcases Nat.lt_or_ge i xs.length with h | h
  ·have h1 := hrel i (.v xs[i]) (by rw [List.getElem?_map, xgE h]; rfl)
   obtain ⟨e, _⟩ := h1.v_eq
   rw [List.length_map] at hvl
   rw [xgE h, xgE (by omega), e, xgD, xgE (by omega)]; rfl
  ·rw [List.length_map] at hvl
   rw [List.getElem?_eq_none h, List.getElem?_eq_none (by omega)]
 subst hv
 refine (hc w hglob.ok).mono ?_
 rintro e w' ⟨rfl, hb⟩
 obtain ⟨hS1, hg1⟩ := hS.below hb
 exact ⟨_, F, L, rfl, hr F L, hS1, hg1.weaken (fun _ _ h => h.elim), by simp, by simp⟩
def mkB (l : List UInt8) : ByteArray := ⟨⟨l⟩⟩
theorem rel_vs {xs : List Value} (h : ∀ x ∈ xs, x.oneCell' = true) (F : Facts) (L : List Nat) : Rel F L (.tup (xs.map .v)) (.tuple xs.toArray) := by
 refine .tup _ _ (by simp) fun k c hk => ?_
 rw [List.getElem?_map] at hk
 obtain ⟨x, hx, rfl⟩ := xoM.1 hk
 rw [xgD, hx]
 exact .sc x (h x (List.mem_of_getElem? hx))
def indexByteT (H : Heap) : List AV → Option (AV × Heap)
 | [.v (.string s), .v (.int .u8 c)] => some (.i (Lib.indexByte s.data.toList c.toNat.toUInt8), H)
 | _ => none
theorem indexByteT_ok {ρ : Ren} (hL : Lays.n137 P ρ) {args : List AV} {r : AV} {H' : Heap} (h : indexByteT H args = some (r, H')) : CallOK P {} (ρ.f 137) args H r H' := by
 unfold indexByteT at h
 split at h
 ·rename_i s c
  injection h with h; injection h with h1 h2; subst h1 h2
  exact scal_ok (xs := [.string s, .int .u8 c]) (fun F L => .sc _ rfl) fun w _ => (Any.strings_IndexByte hL s c w).mono fun e w' ⟨h1, h2⟩ => ⟨h1, h2 ▸ Below.refl _ _⟩
 ·cases h
def cutT (H : Heap) : List AV → Option (AV × Heap)
 | [.v (.string s), .v (.string sep)] => if s.size < 4294967281 then some (.tup [.v (.string (mkB (Lib.cut s.data.toList sep.data.toList).1)), .v (.string (mkB (Lib.cut s.data.toList sep.data.toList).2.1)), .b (Lib.cut s.data.toList sep.data.toList).2.2], H) else none
 | _ => none
theorem drewN_below (w : World) (n : Nat) : Below w.heap.size w (w.drewN n) := by
 induction n generalizing w with
 | zero => exact Below.refl _ _
 | succ n ih => exact (ih w).drew
theorem cutT_ok {ρ : Ren} (hL : Lays.n145 P ρ) (hg : P.globalNamed "internal/bytealg.MaxLen" = some (ρ.g 1)) {args : List AV} {r : AV} {H' : Heap} (h : cutT H args = some (r, H')) : CallOK P {} (ρ.f 145) args H r H' := by
 unfold cutT at h
 split at h
 ·rename_i s sep
  split at h
  ·rename_i hs
   injection h with h; injection h with h1 h2; subst h1 h2
   refine scal_ok (xs := [.string s, .string sep]) (fun F L => rel_vs (xs := [.string _, .string _, .bool _]) (by intro x hx; simp at hx; rcases hx with rfl | rfl | rfl <;> rfl) F L) fun w hG => ?_
   obtain ⟨m, hm⟩ := hG.maxLen _ hg
   exact (Any.strings_Cut hL s sep m w hs hm).mono fun e w' ⟨h1, n, h2⟩ => ⟨h1, h2 ▸ drewN_below w n⟩
  ·cases h
 ·cases h
def replaceT (H : Heap) : List AV → Option (AV × Heap)
 | [.v (.string s), .v (.string old), .v (.string new)] => if s.size < 4294967281 ∧ 1 ≤ old.size ∧ s.size + Lib.countB s old * new.size ≤ 140737488355328 then some (.v (.string (mkB (Lib.replaceAll s.data.toList old.data.toList new.data.toList))), H) else none
 | _ => none
theorem replaceT_ok {ρ : Ren} (hL : Lays.n155 P ρ) (hX : Builder.Extra P ρ) (hg : P.globalNamed "internal/bytealg.MaxLen" = some (ρ.g 1)) {args : List AV} {r : AV} {H' : Heap} (h : replaceT H args = some (r, H')) : CallOK P {} (ρ.f 155) args H r H' := by
 unfold replaceT at h
 split at h
 ·rename_i s old new
  split at h
  ·rename_i hs
   injection h with h; injection h with h1 h2; subst h1 h2
   refine scal_ok (xs := [.string s, .string old, .string new]) (fun F L => .sc _ rfl) fun w hG => ?_
   obtain ⟨m, hm⟩ := hG.maxLen _ hg
   exact Any.strings_ReplaceAll hL hX s old new m w hs.1 hm hs.2.1 hs.2.2
  ·cases h
 ·cases h
def splitT (H : Heap) : List AV → Option (AV × Heap)
 | [.v (.string s), .v (.string sep)] => if s.size < 4294967281 ∧ 1 ≤ sep.size then some (.sl ((Lib.splitB sep 0 (Lib.countB s sep) s).map fun x => .v (.string x)), H) else none
 | _ => none
theorem splitT_ok {ρ : Ren} (hL : Lays.n146 P ρ) (hi9 : (P.info? (ρ.t 9)).map (fun i => (i.zero, i.size, i.bytes)) = some (some (.string ByteArray.empty), 1, 16)) (hg : P.globalNamed "internal/bytealg.MaxLen" = some (ρ.g 1))
  {args : List AV} {r : AV} {H' : Heap} (h : splitT H args = some (r, H')) : CallOK P {} (ρ.f 146) args H r H' := by
 unfold splitT at h
 split at h
 ·rename_i s sep
  split at h
  ·rename_i hs
   injection h with h; injection h with h1 h2; subst h1 h2
   intro F L w vs hS hvl hrel hown hglob
   match vs, hvl with
   | [va, vb], _ =>
    obtain ⟨e, _⟩ := (show Rel F L (.v (.string s)) va from hrel 0 _ rfl).v_eq
    subst e
    obtain ⟨e, _⟩ := (show Rel F L (.v (.string sep)) vb from hrel 1 _ rfl).v_eq
    subst e
    obtain ⟨m, hm⟩ := hglob.ok.maxLen _ hg
    refine (Any.strings_Split hL hi9 s sep m w hs.1 hm hs.2).mono ?_
    rintro e w' ⟨rfl, rfl⟩
    have hlen := Lib.splitB_all sep hs.2 0 _ s rfl
    rw [← hlen]
    generalize Lib.splitB sep 0 (Lib.countB s sep) s = ps at *
    obtain ⟨hS1, hg1⟩ := hS.row (Grew.alloc w (ps.map Value.string) (ρ.t 9)) (ps.map Value.string) (fun i v hv => ⟨hv, by
     obtain ⟨x, _, rfl⟩ := List.mem_map.1 (List.mem_of_getElem? hv); rfl⟩)
    refine ⟨_, _, L, rfl, ?_, hS1, hg1.weaken (fun _ _ h => h.elim), by simp, by simp⟩
    have hr : Row (addF F w.heap.size (ps.map Value.string)) L 1 (ps.map fun x => AV.v (.string x)) (ps.map Value.string) := by
     refine ⟨by simp, fun i e he => ?_, fun i e k c he hc => ?_⟩
     ·rw [List.getElem?_map] at he
      obtain ⟨x, _, rfl⟩ := xoM.1 he
      rfl
     ·rw [List.getElem?_map] at he
      obtain ⟨x, hx, rfl⟩ := xoM.1 he
      match k, hc with
      | 0, hc =>
       injection hc with hc; subst hc
       rw [Nat.mul_one, Nat.add_zero, xgD, List.getElem?_map, hx]
       exact .sc _ rfl
    have := Rel.mk (B := w.heap.size) (o := 0) (cap := ps.length) hr Nat.one_pos (by simp) (fun j u hj => by rw [Nat.zero_add, addF_get, if_pos rfl]; exact hj)
    rw [List.length_map] at this
    exact this
   | [], h => simp at h
   | [_], h => simp at h
   | _ :: _ :: _ :: _, h => simp at h
  ·cases h
 ·cases h
end
end Go.Lv
