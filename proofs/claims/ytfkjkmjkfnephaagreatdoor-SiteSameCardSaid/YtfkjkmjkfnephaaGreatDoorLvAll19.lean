/- A value semantics of the loaded code, its soundness, and walks through functions over it. -/
import Derived.Test.YtfkjkmjkfnephaaGreatDoorLvAll18
import Derived.OpenShut
import Derived.WideShapes
set_option linter.unusedVariables false
set_option linter.unusedSimpArgs false
namespace Go.Lv
section
variable {P : Program} {W : World} {H : Type} {enc : TypeId × Value → H}
theorem Opens.array {n : Nat} {t e : TypeId} {k : IntKind} (ht : P.underlying t = some (.array n e)) (he : P.underlying e = some (.int k)) (hc : P.cellsOf e = 1) (hn : P.cellsOf t = n) :
  Opens P W enc t (fun l : List Int => l.map fun x => AV.v (.int k x)) (fun l => l.length = n ∧ ∀ x ∈ l, (Lit.int k x).wf = true) := by
 refine ⟨fun {fuel cs x base spare held} h hw => ?_⟩
 obtain ⟨xs, m, _, rfl, hl, hxl, hf⟩ := DataW.trod_array ht h
 have hcl : cs.length = n := hl.trans hn
 have hone : ∀ i, i < n → ∃ y, (Lit.int k y).wf = true ∧ cs.getD i undef = .int k y := by
  intro i hi
  have h1 := hf i hi
  rw [hc, Nat.mul_one] at h1
  have hxi : xs[i]? = some xs[i] := xgE (by omega)
  rw [hxi] at h1
  have hcs : (cs.drop i).take 1 = [cs.getD i undef] := by
   rw [List.drop_eq_getElem_cons (by omega), List.take_succ_cons, List.take_zero, xgD, xgE (by omega)]; rfl
  rw [hcs] at h1
  obtain ⟨y, y1, y2, y3, y4, y5⟩ := (Opens.int (P := P) (W := W) (enc := enc) he hc).out h1 (List.all_eq_true.2 fun w hm => by
   have := List.all_eq_true.1 hw w (by
    simp only [DataW.weights, ht]
    exact weightsAll_mem (List.mem_map.2 ⟨xs[i], List.getElem_mem _, rfl⟩) w hm)
   simpa using this)
  refine ⟨y, y1, ?_⟩
  have := y5 0 _ rfl
  obtain ⟨e1, _⟩ := this.v_eq
  simpa using e1.symm
 obtain ⟨f, hf2⟩ : ∃ f : Nat → Int, ∀ i, i < n → (Lit.int k (f i)).wf = true ∧ cs.getD i undef = .int k (f i) :=
  ⟨fun i => if h : i < n then (hone i h).choose else 0, fun i hi => by simp only [dif_pos hi]; exact (hone i hi).choose_spec⟩
 refine ⟨(List.range n).map f, ⟨by simp, fun x hx => ?_⟩, hl, by simp [hcl], ?_, fun j c hc' => ?_⟩
 ·obtain ⟨i, hi, rfl⟩ := List.mem_map.1 hx
  exact (hf2 i (List.mem_range.1 hi)).1
 ·refine List.all_eq_true.2 fun c hc' => ?_
  obtain ⟨x, _, rfl⟩ := List.mem_map.1 hc'
  rfl
 ·rw [List.map_map, List.getElem?_map] at hc'
  obtain ⟨i, hi, rfl⟩ := xoM.1 hc'
  have hjn : j < n := by
   have := (xgI.1 hi).1
   simpa using this
  rw [List.getElem?_range hjn] at hi
  injection hi with hi; subst hi
  rw [(hf2 j hjn).2]
  exact .sc _ rfl
theorem Opens.topAgg {α : Type} {t : TypeId} {f : α → List AV} {B : α → Prop} (ho : Opens P W enc t f B) {base : Nat} {spare : Nat → Bool} {held : Bool} {cs : Array Value} {d : DataW H} {ps : List MemPlace} {ts : List TypeId} {ds : List (DataW H)} {j : Nat}
  (hsz : (DataW.weightsEach P ts ds).all (· ≤ reachBytes) = true) (ht : ts[j]? = some t) (hd : ds[j]? = some d) (h : DataW.Trod enc P W base spare held t (.agg cs) d ps) :
  ∃ a, B a ∧ Rel (allF W) [] (.agg (f a)) (.agg cs) := by
 obtain ⟨fuel, hf⟩ := h
 have hf' : DataW.trod enc P W base spare held fuel t cs.toList = some (d, ps) := hf
 obtain ⟨a, h1, h2, h3, h4, h5⟩ := ho.out hf' (List.all_eq_true.2 fun w hw => by
  have := List.all_eq_true.1 hsz _ (DataW.weights_mem_each ht hd w hw)
  simpa using this)
 refine ⟨a, h1, ?_⟩
 have := Rel.agg (F := allF W) (L := []) (f a) cs.toList h3.symm h5
 simpa using this
end
end Go.Lv
