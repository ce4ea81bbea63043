/- A value semantics of the loaded code, its soundness, and walks through functions over it. -/
import Derived.Test.YtiboedaicjkfnaaGreatDoorLvAll17
import Derived.OpenShut
import Derived.WideShapes
set_option linter.unusedVariables false
set_option linter.unusedSimpArgs false
/-! Arrays and structs as arguments of a law. -/
namespace Go.Lv
section
variable {P : Program} {W : World} {H : Type} {enc : TypeId × Value → H}
theorem Opens.array {n : Nat} {t e : TypeId} {k : IntKind} (ht : P.underlying t = some (.array n e)) (he : P.underlying e = some (.int k)) (hc : P.cellsOf e = 1) (hn : P.cellsOf t = n) :
    Opens P W enc t (fun l : List Int => l.map fun x => AV.v (.int k x)) (fun l => l.length = n ∧ ∀ x ∈ l, (Lit.int k x).wf = true) := by
  refine ⟨fun {fuel cs x base spare held} h hw => ?_⟩
  obtain ⟨xs, m, _, rfl, hl, hxl, hf⟩ := DataW.trod_array ht h
  have hcl : cs.length = n := hl.trans hn
  have hone : ∀ i, i < n → ∃ y, (Lit.int k y).wf = true ∧ cs.getD i undef = .int k y := by
    intro i hi
    have h1 := hf i hi
    rw [hc, Nat.mul_one] at h1
    have hxi : xs[i]? = some xs[i] := List.getElem?_eq_getElem (by omega)
    rw [hxi] at h1
    have hcs : (cs.drop i).take 1 = [cs.getD i undef] := by
      rw [List.drop_eq_getElem_cons (by omega), List.take_succ_cons, List.take_zero, List.getD_eq_getElem?_getD, List.getElem?_eq_getElem (by omega)]; rfl
    rw [hcs] at h1
    obtain ⟨y, y1, y2, y3, y4, y5⟩ := (Opens.int (P := P) (W := W) (enc := enc) he hc).out h1 (List.all_eq_true.2 fun w hm => by
      have := List.all_eq_true.1 hw w (by
        simp only [DataW.weights, ht]
        exact weightsAll_mem (List.mem_map.2 ⟨xs[i], List.getElem_mem _, rfl⟩) w hm)
      simpa using this)
    refine ⟨y, y1, ?_⟩
    have := y5 0 _ rfl
    obtain ⟨e1, _⟩ := this.v_eq
    simpa using e1.symm
  obtain ⟨f, hf2⟩ : ∃ f : Nat → Int, ∀ i, i < n → (Lit.int k (f i)).wf = true ∧ cs.getD i undef = .int k (f i) :=
    ⟨fun i => if h : i < n then (hone i h).choose else 0, fun i hi => by simp only [dif_pos hi]; exact (hone i hi).choose_spec⟩
  refine ⟨(List.range n).map f, ⟨by simp, fun x hx => ?_⟩, hl, by simp [hcl], ?_, fun j c hc' => ?_⟩
  · obtain ⟨i, hi, rfl⟩ := List.mem_map.1 hx
    exact (hf2 i (List.mem_range.1 hi)).1
  · refine List.all_eq_true.2 fun c hc' => ?_
    obtain ⟨x, _, rfl⟩ := List.mem_map.1 hc'
    rfl
  · rw [List.map_map, List.getElem?_map] at hc'
    obtain ⟨i, hi, rfl⟩ := Option.map_eq_some_iff.1 hc'
    have hjn : j < n := by
      have := (List.getElem?_eq_some_iff.1 hi).1
      simpa using this
    rw [List.getElem?_range hjn] at hi
    injection hi with hi; subst hi
    rw [(hf2 j hjn).2]
    exact .sc _ rfl
end
end Go.Lv
