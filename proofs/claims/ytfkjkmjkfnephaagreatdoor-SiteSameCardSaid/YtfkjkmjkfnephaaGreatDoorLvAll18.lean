/- A value semantics of the loaded code, its soundness, and walks through functions over it. -/
import Derived.Test.YtfkjkmjkfnephaaGreatDoorLvAll11
import Derived.ChangeArms
import Derived.ChangeSame
import Derived.DataReads
set_option linter.unusedVariables false
set_option linter.unusedSimpArgs false
namespace Go.Lv
section
variable {P : Program} {W : World} {H : Type} {enc : TypeId × Value → H}
structure Opens (P : Program) (W : World) (enc : TypeId × Value → H) {α : Type} (t : TypeId) (f : α → List AV) (B : α → Prop) : Prop where
 out : ∀ {fuel : Nat} {cs : List Value} {x : DataW H × List MemPlace} {base : Nat} {spare : Nat → Bool} {held : Bool}, DataW.trod enc P W base spare held fuel t cs = some x → (x.1.weights P t).all (· ≤ reachBytes) = true →
  ∃ a, B a ∧ cs.length = P.cellsOf t ∧ (f a).length = cs.length ∧ (f a).all AV.one = true ∧ ∀ (k : Nat) c, (f a)[k]? = some c → Rel (allF W) [] c (cs.getD k undef)
theorem rel1 {c : AV} {v : Value} (h : Rel (allF W) [] c v) : ∀ (k : Nat) (c' : AV), [c][k]? = some c' → Rel (allF W) [] c' ([v].getD k undef) := by
 intro k c' hk
 cases k with
 | zero => injection hk with hk; subst hk; exact h
 | succ k => simp at hk
theorem Opens.int {t : TypeId} {k : IntKind} (ht : P.underlying t = some (.int k)) (hc : P.cellsOf t = 1) : Opens P W enc t (fun n : Int => [AV.v (.int k n)]) (fun n => (Lit.int k n).wf = true) := by
 refine ⟨fun {fuel cs x base spare held} h hw => ?_⟩
 cases fuel with
 | zero => simp [DataW.trod] at h
 | succ fuel =>
  unfold DataW.trod at h
  rw [ht] at h
  split at h <;> simp_all
  ·rename_i k' n _
   obtain ⟨⟨rfl, h1⟩, _⟩ := h
   exact ⟨n, h1, rfl, rel1 (.sc _ rfl)⟩
theorem Opens.bool {t : TypeId} (ht : P.underlying t = some .bool) (hc : P.cellsOf t = 1) : Opens P W enc t (fun b : Bool => [AV.v (.bool b)]) (fun _ => True) := by
 refine ⟨fun {fuel cs x base spare held} h hw => ?_⟩
 cases fuel with
 | zero => simp [DataW.trod] at h
 | succ fuel =>
  have : ∃ b, cs = [.bool b] := by
   unfold DataW.trod at h
   rw [ht] at h
   split at h <;> simp_all
  obtain ⟨b, rfl⟩ := this
  exact ⟨b, trivial, hc.symm, rfl, rfl, rel1 (.sc _ rfl)⟩
theorem Opens.str {t : TypeId} (ht : P.underlying t = some .string) (hc : P.cellsOf t = 1) : Opens P W enc t (fun s : List UInt8 => [AV.str s]) (fun s => s.length ≤ 140737488351232) := by
 refine ⟨fun {fuel cs x base spare held} h hw => ?_⟩
 obtain ⟨s, rfl, rfl, h1⟩ := DataW.trod_string ht h
 refine ⟨s.data.toList, ?_, hc.symm, rfl, rfl, rel1 rel_str⟩
 have h2 : (decide (s.data.toList.length ≤ reachBytes)) = true := by
  have := List.all_eq_true.1 hw s.data.toList.length (by simp [DataW.weights])
  exact this
 exact of_decide_eq_true h2
theorem weightsAll_mem {e : TypeId} : ∀ {l : List (DataW H)} {d : DataW H}, d ∈ l → ∀ w ∈ d.weights P e, w ∈ DataW.weightsAll P e l := by
 intro l
 induction l with
 | nil => intro d h; simp at h
 | cons x l ih =>
  intro d h w hw
  simp only [DataW.weightsAll, List.mem_append]
  rcases List.mem_cons.1 h with rfl | h
  ·exact .inl hw
  ·exact .inr (ih h w hw)
def elA (g : Bool) (cs : List AV) : AV := if g then .agg cs else cs.headD .un
theorem elA_cells {g : Bool} {cs : List AV} {n : Nat} (h : cs.length = n) (hg : g = false → n = 1) (h1 : cs.all AV.one = true) : (elA g cs).cells = cs := by
 cases g with
 | true => rfl
 | false =>
  have := hg rfl
  match cs, h with
  | [c], _ =>
   simp [AV.one] at h1
   cases c <;> first | rfl | simp [AV.one] at h1
  | [], h => simp at h; omega
  | _ :: _ :: _, h => simp at h; omega
theorem Opens.slice {α : Type} {t e : TypeId} {f : α → List AV} {B : α → Prop} {n by_ : Nat} (g : Bool) (ht : P.underlying t = some (.slice e)) (hc : P.cellsOf e = n) (hn : 0 < n) (hb : P.bytesOf e = by_) (hg : g = false → n = 1) (ho : Opens P W enc e f B) (hc1 : P.cellsOf t = 1) :
  Opens P W enc t (fun l : List α => [AV.sl (l.map fun a => elA g (f a))]) (fun l => l.length * by_ ≤ 140737488351232 ∧ ∀ a ∈ l, B a) := by
 refine ⟨fun {fuel cs x base spare held} h hw => ?_⟩
 rcases DataW.trod_slice ht h with ⟨rfl, rfl⟩ | ⟨a, len, cap, elems, rest, m, _, rfl, rfl, hba, hl, hm, hlen, hel, hsp, hns⟩
 ·exact ⟨[], ⟨by simp, by simp⟩, hc1.symm, rfl, rfl, rel1 (.sl0 none 0 (fun _ => rfl))⟩
 have hwt : ∀ w ∈ DataW.weights P t (.slice (elems.map (·.1)) (rest.map (·.1)) : DataW H), w ≤ reachBytes := fun w hw' => by
  have := List.all_eq_true.1 hw w hw'
  simpa using this
 have hsz : len * by_ ≤ 140737488351232 := by
  have := hwt ((elems.length + rest.length) * by_) (by simp [DataW.weights, ht, hb])
  have h2 : elems.length * by_ ≤ (elems.length + rest.length) * by_ := Nat.mul_le_mul_right _ (by omega)
  rw [hlen] at h2 this
  have h3 : reachBytes = 140737488351232 := by decide
  omega
 have each : ∀ i, i < len → ∃ (b : α), B b ∧ (f b).length = n ∧ (f b).all AV.one = true ∧ ∃ vs : List Value, vs.length = n ∧ (∀ k, k < n → W.cell? ((a.add (i * n)).add k) = vs[k]?) ∧ ∀ (k : Nat) c, (f b)[k]? = some c → Rel (allF W) [] c (vs.getD k undef) := by
  intro i hi
  have h1 := hel i hi
  have h2 : elems[i]? = some (elems[i]'(by omega)) := xgE (by omega)
  rw [h2] at h1
  obtain ⟨vs, h3, h4⟩ := xoB.1 h1
  rw [hc] at h3
  obtain ⟨_, hvl, hvs⟩ := World.cells?_some h3
  obtain ⟨b, b1, b2, b3, b4, b5⟩ := ho.out h4 (by
   refine List.all_eq_true.2 fun w hw' => ?_
   simp only [decide_eq_true_eq]
   refine hwt w ?_
   simp only [DataW.weights, ht, List.mem_cons, List.mem_append]
   exact .inr (.inl (weightsAll_mem (List.mem_map_of_mem (List.getElem_mem (show i < elems.length by omega))) w hw')))
  exact ⟨b, b1, by omega, b4, vs, hvl, hvs, b5⟩
 have build : ∀ m, m ≤ len → ∃ l : List α, l.length = m ∧ ∀ i, (hi : i < l.length) → B l[i] ∧ (f l[i]).length = n ∧ (f l[i]).all AV.one = true ∧ ∃ vs : List Value, vs.length = n ∧ (∀ k, k < n → W.cell? ((a.add (i * n)).add k) = vs[k]?) ∧ ∀ (k : Nat) c, (f l[i])[k]? = some c → Rel (allF W) [] c (vs.getD k undef) := by
  intro m
  induction m with
  | zero => intro _; exact ⟨[], rfl, fun i hi => by simp at hi⟩
  | succ m ih =>
   intro hm
   obtain ⟨l, h1, h2⟩ := ih (by omega)
   obtain ⟨b, hb⟩ := each m (by omega)
   refine ⟨l ++ [b], by simp [h1], fun i hi => ?_⟩
   by_cases him : i < l.length
   ·rw [List.getElem_append_left him]; exact h2 i him
   ·have : i = m := by simp at hi; omega
    subst this
    have e : (l ++ [b])[i] = b := by rw [List.getElem_append_right (by omega)]; simp
    rw [e]; exact hb
 obtain ⟨l, hll, hall⟩ := build len (Nat.le_refl _)
 refine ⟨l, ⟨by rw [hll]; exact hsz, fun b hb' => ?_⟩, hc1.symm, rfl, rfl, rel1 ?_⟩
 ·obtain ⟨i, hi, rfl⟩ := List.getElem_of_mem hb'
  exact (hall i hi).1
 by_cases h0 : len = 0
 ·have : l = [] := List.eq_nil_of_length_eq_zero (by omega)
  subst this
  subst h0
  exact .sl0 _ _ (fun h => by cases h)
 ·-- the address has no spot
  obtain ⟨_, _, _, vs0, v1, v2, _⟩ := hall 0 (by omega)
  have hne : W.cell? ((a.add (0 * n)).add 0) ≠ none := by
   rw [v2 0 hn, xgE (by omega)]; simp
  have hsp : a.spot = none := by
   have e : (a.add (0 * n)).add 0 = a := by simp [Addr.add]
   rw [e] at hne
   exact spot_none hne
  obtain ⟨Bk, o, sp⟩ := a
  simp only at hsp; subst hsp
  have hadd : ∀ i k : Nat, (Addr.add ⟨Bk, o, none⟩ (i * n)).add k = ⟨Bk, o + i * n + k, none⟩ := by
   intro i k
   unfold Addr.add
   split <;> split <;> simp_all
  have vals : ∃ vals : Nat → Nat → Value, ∀ i, (hi : i < l.length) → (∀ k, k < n → W.cell? ⟨Bk, o + i * n + k, none⟩ = some (vals i k)) ∧ ∀ (k : Nat) c, (f l[i])[k]? = some c → Rel (allF W) [] c (vals i k) := by
   refine ⟨fun i k => (W.cell? ⟨Bk, o + i * n + k, none⟩).getD undef, fun i hi => ?_⟩
   obtain ⟨_, h2, _, vs, v1, v2, v3⟩ := hall i hi
   have key : ∀ k, k < n → W.cell? ⟨Bk, o + i * n + k, none⟩ = some (vs.getD k undef) := by
    intro k hk
    rw [← hadd, v2 k hk, xgE (by omega), xgD, xgE (by omega)]
    rfl
   refine ⟨fun k hk => by simp only; rw [key k hk]; rfl, fun k c hk => ?_⟩
   have hkn : k < n := by have := (xgI.1 hk).1; omega
   simp only
   rw [key k hkn]
   exact v3 k c hk
  obtain ⟨vals, hv⟩ := vals
  refine .sl _ Bk o len cap n vals (by simp [hll]) (by omega) hl hn ?_ ?_ ?_
  ·intro i e he
   rw [List.getElem?_map] at he
   obtain ⟨b, hb', rfl⟩ := xoM.1 he
   obtain ⟨hi, rfl⟩ := xgI.1 hb'
   obtain ⟨_, h2, h3, _⟩ := hall i hi
   rw [elA_cells h2 hg h3, h2]
  ·intro i k hi hk
   obtain ⟨_, h2, h3, _⟩ := hall i (by omega)
   obtain ⟨v1, v2⟩ := hv i (by omega)
   refine allF_some.2 ⟨v1 k hk, ?_⟩
   have hc' : (f l[i])[k]? = some ((f l[i])[k]'(by omega)) := xgE (by omega)
   exact (v2 k _ hc').one (List.all_eq_true.1 h3 _ (List.getElem_mem _))
  ·intro i e k c he hc'
   rw [List.getElem?_map] at he
   obtain ⟨b, hb', rfl⟩ := xoM.1 he
   obtain ⟨hi, rfl⟩ := xgI.1 hb'
   obtain ⟨_, h2, h3, _⟩ := hall i hi
   rw [elA_cells h2 hg h3] at hc'
   exact (hv i hi).2 k c hc'
theorem Opens.top {α : Type} {t : TypeId} {f : α → List AV} {B : α → Prop} (ho : Opens P W enc t f B) {base : Nat} {spare : Nat → Bool} {held : Bool} {v : Value} {d : DataW H} {ps : List MemPlace} {ts : List TypeId} {ds : List (DataW H)} {j : Nat}
  (hsz : (DataW.weightsEach P ts ds).all (· ≤ reachBytes) = true) (ht : ts[j]? = some t) (hd : ds[j]? = some d) (hv : v.cells = #[v]) (h : DataW.Trod enc P W base spare held t v d ps) :
  ∃ a, B a ∧ ∀ c, f a = [c] → Rel (allF W) [] c v := by
 obtain ⟨fuel, hf⟩ := h
 rw [hv] at hf
 obtain ⟨a, h1, h2, h3, h4, h5⟩ := ho.out hf (List.all_eq_true.2 fun w hw => by
  have := List.all_eq_true.1 hsz _ (DataW.weights_mem_each ht hd w hw)
  simpa using this)
 refine ⟨a, h1, fun c hc => ?_⟩
 rw [hc] at h5
 exact h5 0 c rfl
end
end Go.Lv
set_option linter.unusedVariables false
set_option linter.unusedSimpArgs false
namespace Go.Lv
section
variable {P : Program} {W : World} {H : Type} {enc : TypeId × Value → H}
structure OpensF (P : Program) (W : World) (enc : TypeId × Value → H) {α : Type} (fs : List Field) (off tot : Nat) (f : α → List AV) (B : α → Prop) : Prop where
 out : ∀ {n : Nat} {cs : List Value} {xs : List (DataW H × List MemPlace)} {base : Nat} {spare : Nat → Bool} {held : Bool}, xs.length = fs.length →
  (∀ (i : Nat) (fd : Field), fs[i]? = some fd → DataW.trod enc P W base spare held n fd.type ((cs.drop fd.offset).take (P.cellsOf fd.type)) = xs[i]?) → off + tot ≤ cs.length → (∀ w ∈ DataW.weightsEach P (fs.map (·.type)) (xs.map (·.1)), w ≤ reachBytes) →
  ∃ a, B a ∧ (f a).length = tot ∧ (f a).all AV.one = true ∧ ∀ (k : Nat) c, (f a)[k]? = some c → Rel (allF W) [] c (cs.getD (off + k) undef)
theorem OpensF.nil {off : Nat} : OpensF P W enc [] off 0 (fun _ : Unit => []) (fun _ => True) :=
 ⟨fun {n cs xs base spare held} _ _ _ _ => ⟨(), trivial, rfl, rfl, fun k c h => by simp at h⟩⟩
theorem OpensF.cons {α β : Type} {fd : Field} {fs : List Field} {off tot n0 tot' : Nat} {f0 : α → List AV} {B0 : α → Prop} {f1 : β → List AV} {B1 : β → Prop} (h0 : Opens P W enc fd.type f0 B0) (ho : fd.offset = off) (hc : P.cellsOf fd.type = n0) (h1 : OpensF P W enc fs (off + n0) tot f1 B1) (ht : tot' = n0 + tot) :
  OpensF P W enc (fd :: fs) off tot' (fun p : α × β => f0 p.1 ++ f1 p.2) (fun p => B0 p.1 ∧ B1 p.2) := by
 subst ht
 refine ⟨fun {n cs xs base spare held} hl ht hcs hw => ?_⟩
 cases xs with
 | nil => simp at hl
 | cons x xs =>
  have e0 := ht 0 fd rfl
  simp only [List.getElem?_cons_zero] at e0
  have hw0 : ∀ w ∈ x.1.weights P fd.type, w ≤ reachBytes := fun w hm => hw w (by simp [DataW.weightsEach, hm])
  obtain ⟨a, a1, a2, a3, a4, a5⟩ := h0.out e0 (List.all_eq_true.2 fun w hm => by simpa using hw0 w hm)
  obtain ⟨b, b1, b2, b3, b4⟩ := h1.out (n := n) (cs := cs) (xs := xs) (base := base) (spare := spare) (held := held) (by simpa using hl) (fun i f hf => by have := ht (i + 1) f (by simpa using hf); simpa using this) (by omega) (fun w hm => hw w (by simp [DataW.weightsEach, hm]))
  have hlen : ((cs.drop fd.offset).take (P.cellsOf fd.type)).length = n0 := by rw [List.length_take, List.length_drop, hc, ho]; omega
  rw [hlen] at a3
  refine ⟨(a, b), ⟨a1, b1⟩, by simp [a3, b2], by simp [List.all_append, a4, b3], fun k c hk => ?_⟩
  simp only at hk
  rcases Nat.lt_or_ge k n0 with hkn | hkn
  ·rw [xgL (by omega)] at hk
   have := a5 k c hk
   rw [xgD, List.getElem?_take, if_pos (by omega), List.getElem?_drop, ho] at this
   rw [xgD]
   exact this
  ·rw [xgR (by omega), a3] at hk
   have := b4 _ c hk
   rw [show off + n0 + (k - n0) = off + k by omega] at this
   exact this
theorem Opens.struct {α : Type} {t : TypeId} {fs : Array Field} {tot : Nat} {f : α → List AV} {B : α → Prop} (ht : P.underlying t = some (.struct fs)) (hc : P.cellsOf t = tot) (h : OpensF P W enc fs.toList 0 tot f B) : Opens P W enc t f B := by
 refine ⟨fun {fuel cs x base spare held} hx hw => ?_⟩
 obtain ⟨xs, n, _, rfl, hl, hxl, hf⟩ := DataW.trod_struct ht hx
 obtain ⟨a, a1, a2, a3, a4⟩ := h.out (n := n) (cs := cs) (xs := xs) (base := base) (spare := spare) (held := held) (by simpa using hxl) (fun i fd hfd => hf i fd (by simpa using hfd)) (by omega) (fun w hm => by
  have := List.all_eq_true.1 hw w (by simpa [DataW.weights, ht] using hm)
  simpa using this)
 exact ⟨a, a1, hl, by omega, a3, fun k c hk => by have := a4 k c hk; rwa [Nat.zero_add] at this⟩
theorem Opens.iso {α β : Type} {t : TypeId} {f : α → List AV} {B : α → Prop} {f2 : β → List AV} {B2 : β → Prop} (g : α → β) (h : Opens P W enc t f B) (hf : ∀ a, f2 (g a) = f a) (hB : ∀ a, B a → B2 (g a)) : Opens P W enc t f2 B2 := by
 refine ⟨fun {fuel cs x base spare held} hx hw => ?_⟩
 obtain ⟨a, a1, a2, a3, a4, a5⟩ := h.out hx hw
 exact ⟨g a, hB a a1, a2, by rw [hf]; exact a3, by rw [hf]; exact a4, by rw [hf]; exact a5⟩
end
end Go.Lv
