/- A value semantics of the loaded code, its soundness, and walks through functions over it. -/
import Derived.Test.YtfkjkmjkfnephaaGreatDoorLvAll9
import Derived.Room.Shelf.Join48
import Derived.Test.YtfkjkmjkfnephaaGreatDoorLvAll8
import Derived.Test.YtfkjkmjkfnephaaGreatDoorLvAll11
import Derived.Test.YtfkjkmjkfnephaaGreatDoorSpSpec
set_option linter.unusedVariables false
set_option linter.unusedSimpArgs false
namespace Go.Lv
open Go.Proofs Go.Shelf
section
variable {P : Program} {F : Facts} {L : List Nat} {w : World} {H : Heap}
def textOfA : AV → Option ByteArray
 | .v (.string s) => some s
 | _ => none
theorem textOfA_some {a : AV} {s : ByteArray} (h : textOfA a = some s) : a = .v (.string s) := by
 unfold textOfA at h
 split at h
 ·injection h with h; subst h; rfl
 ·cases h
theorem textsOfA_some : ∀ {xs : List AV} {ls : List ByteArray}, xs.mapM textOfA = some ls → xs = ls.map fun s => AV.v (.string s) := by
 intro xs
 induction xs with
 | nil => intro ls h; simp at h; subst h; rfl
 | cons a xs ih =>
  intro ls h
  rw [List.mapM_cons] at h
  obtain ⟨s, hs, h⟩ := xoB.1 h
  obtain ⟨l', hl, h⟩ := xoB.1 h
  injection h with h; subst h
  rw [List.map_cons, ← ih hl, textOfA_some hs]
theorem flat_texts (ls : List ByteArray) : ((ls.map fun s => AV.v (.string s)).flatMap AV.cells) = ls.map fun s => AV.v (.string s) := by
 induction ls with
 | nil => rfl
 | cons a t ih => simp only [List.map_cons, List.flatMap_cons]; rw [ih]; rfl
def joinL (ls : List ByteArray) (sep : ByteArray) : List UInt8 := Lib.join (ls.map (·.data.toList)) sep.data.toList
def joinT (H : Heap) : List AV → Option (AV × Heap)
 | [.sl xs, .v (.string sep)] => (xs.mapM textOfA).bind fun ls => if (joinL ls sep).length ≤ 140737488355328 ∧ xs.length ≤ 140737488355328 then some (.v (.string ⟨(joinL ls sep).toArray⟩), H) else none
 | _ => none
theorem joinT_ok {ρ : Shelf.Ren} (hL : Lays.n156 P ρ) (hX : Builder.Extra P ρ) {args : List AV} {r : AV} {H' : Heap} (h : joinT H args = some (r, H')) : CallOK P {} (ρ.f 156) args H r H' := by
 intro F L w vs hS hvl hrel hown hglob
 unfold joinT at h
 split at h
 ·rename_i xs sep
  obtain ⟨ls, hls, h⟩ := xoB.1 h
  split at h
  ·rename_i hc
   obtain ⟨c1, c2⟩ := hc
   injection h with h; injection h with h3 h4; subst h3 h4
   match vs, hvl with
   | [va, vb], _ =>
    have ra : Rel F L (.sl xs) va := hrel 0 _ rfl
    have rb : Rel F L (.v (.string sep)) vb := hrel 1 _ rfl
    obtain ⟨e, _⟩ := rb.v_eq
    subst e
    have hx := textsOfA_some hls
    subst hx
    obtain ⟨ad, cap, news, rfl, hcap, hnone, hrow, hone, hF⟩ := ra.row (n := 1) hS (by intro a ha; obtain ⟨s, _, rfl⟩ := List.mem_map.1 ha; rfl)
    rw [List.length_map] at c2 hcap ⊢
    by_cases h0 : ls = []
    ·subst h0
     refine (Any.strings_Join_none hL hX ad cap sep w).mono ?_
     rintro e w' ⟨rfl, rfl⟩
     exact ⟨_, F, L, rfl, .sc _ rfl, hS, (Goes.refl _ F L w').weaken (fun _ _ h => h), by simp, by simp⟩
    ·have hnl : news.length = ls.length := by have := hrow.len; simpa using this
     obtain ⟨B, o, rfl, hf⟩ := hF (by intro he; rw [he] at hnl; exact h0 (List.eq_nil_of_length_eq_zero hnl.symm))
     have hcells : ∀ (j : Nat) x, ls[j]? = some x → w.cell? ⟨B, o + j, none⟩ = some (.string x) := by
      intro j x hj
      have hjl := (xgI.1 hj).1
      have hn : news[j]? = some news[j] := xgE (by omega)
      have hm := (hS.mem _ _ _ (hf j _ hn)).1
      have hk := row_flat hrow (by omega) j (.v (.string x)) (by
       rw [flat_texts, List.getElem?_map, hj]; rfl)
      rw [xgD, hn, Option.getD_some] at hk
      obtain ⟨e, _⟩ := hk.v_eq
      rw [hm, ← e]
     have hBlt : B < w.heap.size := by
      have h0' : 0 < ls.length := List.length_pos_iff.2 h0
      exact hS.ltF (hf 0 _ (xgE (show 0 < news.length by omega)))
     refine (Any.strings_Join_48 hL hX B o cap ls sep w hcells hBlt c2 hcap (by unfold joinL at c1; omega)).mono ?_
     rintro e w' ⟨rfl, hb⟩
     obtain ⟨hS1, hg1⟩ := hS.below hb
     exact ⟨_, F, L, rfl, .sc _ rfl, hS1, hg1.weaken (fun _ _ h => h.elim), by simp, by simp⟩
   | [], h => simp at h
   | [_], h => simp at h
   | _ :: _ :: _ :: _, h => simp at h
  ·cases h
 ·cases h
end
end Go.Lv
set_option linter.unusedVariables false
set_option linter.unusedSimpArgs false
namespace Go.Lv
section
variable {H : Heap}
end
end Go.Lv
