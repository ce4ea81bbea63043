/- A value semantics of the loaded code, its soundness, and walks through functions over it. -/
import Derived.Test.YtbfcbjmoijiffaaLvAll8
import Derived.Below
import Derived.ChangeSlices
import Derived.SizedLaws
import Derived.WideShapes
import Derived.Carry
import Derived.Handed
import Derived.HandedShaped
set_option linter.unusedVariables false
set_option linter.unusedSimpArgs false
/-! From a walk to a call in any memory. -/
namespace Go.Lv
open Go.RowKit (Below)
section
variable {P : Program} {C : Cfg} {W : World}

/-- All that stands in memory, for good. -/
def allF (W : World) : Facts := { get := fun B i => (W.cell? ⟨B, i, none⟩).bind fun v => if v.oneCell' = true then some v else none, room := fun _ => 0 }
theorem allF_some {B i : Nat} {v : Value} : allF W B i = some v ↔ W.cell? ⟨B, i, none⟩ = some v ∧ v.oneCell' = true := by
  show ((W.cell? ⟨B, i, none⟩).bind fun v => if v.oneCell' = true then some v else none) = some v ↔ _
  cases h : W.cell? ⟨B, i, none⟩ with
  | none => simp
  | some u =>
    constructor
    · intro h
      simp only [Option.bind_some] at h
      split at h
      · rename_i hu; injection h with h; subst h; exact ⟨rfl, hu⟩
      · cases h
    · rintro ⟨h, hu⟩
      injection h with h; subst h
      simp only [Option.bind_some, if_pos hu]
theorem allF_st : St P (allF W) [] NX W [] :=
  ⟨fun B i v h => allF_some.1 h, rfl, by simp, by simp, by simp, by simp, by simp, by intro B h; exact h.elim, fun B h => rfl, by simp, by simp⟩

/-- The call of a function that the walk is through, in any memory. -/
theorem law_callsG (W0 : World0 P C) {f : FuncId} {args : List AV} {vs : List Value} (hsig : C.sig f = {}) (h : WF P C f args [] (fun r H' => r = .b true)) (hl : vs.length = args.length)
    (hrel : ∀ (k : Nat) c, args[k]? = some c → Rel (allF W) [] c (vs.getD k undef)) (hG : GlobOK P W) : Calls P f vs.toArray W (fun e w' => e = .returned (.bool true) ∧ Below W.heap.size W w') := by
  obtain ⟨n, r, H', h1, rfl⟩ := h
  have hc := ((lcall_ok W0 n).ok f args [] _ H' h1).1
  rw [hsig] at hc
  refine (hc (allF W) [] W vs allF_st hl hrel ⟨by intro k n hk; simp at hk, by intro j k n m hj; simp at hj⟩ ⟨hG, fun g hg => ⟨hG.lt g hg, by simp, by rintro ⟨j, n, hj, _⟩; simp at hj⟩⟩).mono ?_
  rintro e w' ⟨v, F', L', rfl, hR⟩
  have hv : v = .bool true := by
    have := hR.rel
    cases this; rfl
  subst hv
  refine ⟨rfl, hR.goes.rest.1, hR.goes.rest.2.1, hR.goes.rest.2.2, hR.goes.size, fun k hk => ?_⟩
  refine (hR.goes.keep k hk ?_ (by simp)).1
  rintro ⟨j, n, hj, _⟩
  simp at hj

theorem law_calls (W0 : World0 P C) (hno : (globNames.all fun n => (P.globalNamed n).isNone) = true) {f : FuncId} {args : List AV} {vs : List Value} (hsig : C.sig f = {}) (h : WF P C f args [] (fun r H' => r = .b true)) (hl : vs.length = args.length)
    (hrel : ∀ (k : Nat) c, args[k]? = some c → Rel (allF W) [] c (vs.getD k undef)) : Calls P f vs.toArray W (fun e w' => e = .returned (.bool true) ∧ Below W.heap.size W w') :=
  have hg := GlobAt.none hno [] (fun _ => False) W
  law_callsG W0 hsig h hl hrel hg.ok

theorem add_spot {x : Addr} {i : Nat} {v : Value} (h : W.cell? (x.add i) = some v) (h0 : W.cell? (x.add 0) ≠ none) : W.cell? ⟨x.block, x.off + i, none⟩ = some v := by
  by_cases hi : i = 0
  · subst hi
    have hx : x.add 0 = x := rfl
    rw [hx] at h
    obtain ⟨b, o, sp⟩ := x
    unfold World.cell? at h ⊢
    simp only at h ⊢
    split at h
    · rename_i c t fr hb
      cases sp with
      | none => simpa [hb] using h
      | some s => simp at h
    · cases h
  · have hx : x.add i = ⟨x.block, x.off + i, none⟩ := by unfold Addr.add; rw [if_neg hi]
    rw [hx] at h; exact h
theorem spot_none {x : Addr} (h0 : W.cell? x ≠ none) : x.spot = none := by
  obtain ⟨b, o, sp⟩ := x
  cases sp with
  | none => rfl
  | some s =>
    exfalso; apply h0
    unfold World.cell?
    simp only
    split <;> simp

/-- A slice of whole numbers, as it stands. -/
def IsRow (k : IntKind) (w : World) (a : Option Addr) (len cap : Nat) (zs : List Int) : Prop :=
  (a = none ∧ len = 0 ∧ cap = 0 ∧ zs = []) ∨
  ∃ x, a = some x ∧ len ≤ cap ∧ cap ≤ maxLen ∧ zs.length = cap ∧ (∀ i, i < zs.length → w.cell? (x.add i) = some (.int k (zs.getD i 0))) ∧ ∀ n ∈ zs, (Lit.int k n).wf = true
theorem rel_ints {k : IntKind} {a : Option Addr} {len cap : Nat} {zs : List Int} (h : IsRow k W a len cap zs) : Rel (allF W) [] (.sl ((zs.take len).map fun n => AV.v (.int k n))) (.slice a len cap) := by
  rcases h with ⟨rfl, rfl, rfl, rfl⟩ | ⟨x, rfl, hlc, hm, hz, hc, hw⟩
  · exact .sl0 none 0 (fun _ => rfl)
  · by_cases h0 : len = 0
    · subst h0; exact .sl0 _ _ (fun h => by cases h)
    · have hc0 := hc 0 (by omega)
      have hne : W.cell? (x.add 0) ≠ none := by rw [hc0]; simp
      have hsp := spot_none (W := W) (x := x) hne
      obtain ⟨B, o, sp⟩ := x
      simp only at hsp; subst hsp
      refine .sl _ B o len cap 1 (fun i _ => .int k (zs.getD i 0)) (by simp; omega) (by omega) hlc (by omega) ?_ ?_ ?_
      · intro i e he
        obtain ⟨n, _, rfl⟩ := List.mem_map.1 (List.mem_of_getElem? he)
        rfl
      · intro i k' hi hk'
        obtain rfl : k' = 0 := by omega
        have := add_spot (hc i (by omega)) hne
        simp only [Nat.mul_one, Nat.add_zero]
        exact allF_some.2 ⟨this, rfl⟩
      · intro i e k' c he hc'
        rw [List.getElem?_map, List.getElem?_take] at he
        split at he
        · obtain ⟨n, hn, rfl⟩ := Option.map_eq_some_iff.1 he
          cases k' with
          | zero =>
            injection hc' with hc'; subst hc'
            rw [List.getD_eq_getElem?_getD, hn]
            exact .sc _ rfl
          | succ k' => cases hc'
        · cases he
theorem rel_bytes {a : Option Addr} {len cap : Nat} {zs : List Int} (h : IsRow .u8 W a len cap zs) : Rel (allF W) [] (.sl (((zs.take len).map fun n => UInt8.ofNat n.toNat).map byteA)) (.slice a len cap) := by
  have hw : ∀ n ∈ zs, (Lit.int .u8 n).wf = true := by
    rcases h with ⟨_, _, _, rfl⟩ | ⟨x, _, _, _, _, _, hw⟩
    · simp
    · exact hw
  have e : (((zs.take len).map fun n => UInt8.ofNat n.toNat).map byteA) = (zs.take len).map fun n => AV.v (.int .u8 n) := by
    rw [List.map_map]
    apply List.map_congr_left
    intro n hn
    have h1 := hw n (List.mem_of_mem_take hn)
    have h2 : 0 ≤ n ∧ n ≤ 255 := by
      simpa [Lit.wf, IntKind.min, IntKind.max, IntKind.signed, IntKind.bits] using h1
    simp only [Function.comp, byteA]
    congr 2
    rw [UInt8.toNat_ofNat']
    omega
  rw [e]
  exact rel_ints h
theorem rel_str {s : ByteArray} : Rel (allF W) [] (AV.str s.data.toList) (.string s) := .sc _ rfl
theorem rel_nil {F : Facts} {L : List Nat} : ∀ (k : Nat) (c : AV), ([] : List AV)[k]? = some c → Rel F L c (([] : List Value).getD k undef) := by
  intro k c h; simp at h
theorem rel_cons {F : Facts} {L : List Nat} {a : AV} {v : Value} {as_ : List AV} {vs : List Value} (h : Rel F L a v) (hs : ∀ (k : Nat) c, as_[k]? = some c → Rel F L c (vs.getD k undef)) : ∀ (k : Nat) c, (a :: as_)[k]? = some c → Rel F L c ((v :: vs).getD k undef) := by
  intro k c hk
  cases k with
  | zero => injection hk with hk; subst hk; exact h
  | succ k => exact hs k c hk

open Go.ChangeShapes Go.WideShapes in
/-- A slice of whole numbers, opened: its row, and how long it can be. -/
theorem open_row {H : Type} {enc : TypeId × Value → H} {base : Nat} {spare : Nat → Bool} {held : Bool} {t e : TypeId} {k : IntKind} {a : Option Addr} {len cap : Nat} {d : DataW H} {ps : List MemPlace} {ts : List TypeId} {ds : List (DataW H)} {j B : Nat}
    (hsp : ∀ b, spare b = true) (hsz : (DataW.weightsEach P ts ds).all (· ≤ reachBytes) = true) (ht : ts[j]? = some t) (hd : ds[j]? = some d) (hu : P.underlying t = some (.slice e)) (he : P.underlying e = some (.int k)) (hc : P.cellsOf e = 1) (hB : P.bytesOf e = B)
    (h : DataW.Trod enc P W base spare held t (.slice a len cap) d ps) : (∃ zs, IsRow k W a len cap zs) ∧ len * B ≤ 140737488351232 := by
  obtain ⟨fuel, hf⟩ := h
  rcases open_ints hu he hc hf with ⟨hcs, _⟩ | ⟨x, l, c, zs, hcs, _, hl, hm, hz, hx, hcell, hw⟩
  · simp [Value.cells] at hcs
    obtain ⟨rfl, rfl, rfl⟩ := hcs
    exact ⟨⟨[], .inl ⟨rfl, rfl, rfl, rfl⟩⟩, by simp⟩
  · simp [Value.cells] at hcs
    obtain ⟨rfl, rfl, rfl⟩ := hcs
    rw [if_pos (hsp _)] at hz
    refine ⟨⟨zs, .inr ⟨x, rfl, hl, hm, hz, hcell, hw⟩⟩, ?_⟩
    obtain ⟨hx, _⟩ := Prod.mk.inj hx
    subst hx
    have z := sized_slice hsz ht hd hu
    rw [hB] at z
    have h1 : (lits (H := H) k (zs.take len)).length + (lits (H := H) k (zs.drop len)).length = zs.length := by
      simp [lits]; omega
    rw [h1] at z
    exact Nat.le_trans (Nat.mul_le_mul_right _ (by omega)) z
end
/-- The kit's wrap for a row that lists variables, with the world's shape kept as well. -/
theorem returns_laid {H : Type} {enc : TypeId × Value → H} {a : Assume} {C : Checked} {os : Os} {f : FuncId} {fn : Func} {s : ChangeSpec} {conds : List PathCond} {apart fresh handsOn again : Bool} {X : World → Array Value → Prop}
    (hX : ∀ (w w' : World) (args : Array Value), w.heap = w'.heap → X w args → X w' args)
    (own : ownKnob C.prog.godebug = none) (started : os.Started) (noInit : C.prog.inits.idxOf? f = none) (hfn : C.prog.funcs[f]? = some fn)
    (witness : ∃ (w : World) (tape : Tape) (i : Input), w.os = os ∧ (w.forCall tape i).Shaped C.prog ∧ i.vars = [] ∧ Input.okWide C.prog (w.forCall tape i) .any w.heap.size f i ∧
      ((s.pre enc C.prog fn conds apart (w.forCall tape i).memory i.args ∧ X (w.forCall tape i).memory i.args) ∧ sizedMet enc C.prog fn (OpenSpec.ofChange s) apart (w.forCall tape i).memory i.args) ∧ a.holds C.prog (lone (Frame.enter C.prog f i.args .normal) [] (w.forCall tape i)))
    (contract : ∀ (W : World) (base : Nat) (args : Array Value) (ds gs : List (DataW H)) (before : List MemPlace),
      (∀ (j : Nat) t v, fn.params[j]? = some t → args[j]? = some v → Value.okWide C.prog W .any base t v) →
      DataW.Whole enc C.prog fn.params.toList s.vars apart W args.toList ds gs before →
      conds.all (PathCond.test C.prog ⟨fn.params.toList, ds, s.plain.varTypes C.prog, gs⟩) = true →
      (DataW.weightsEach C.prog (fn.params.toList ++ s.plain.varTypes C.prog) (ds ++ gs)).all (· ≤ reachBytes) = true → X W args → W.ShapedOpen C.prog →
      a.holds C.prog (lone (Frame.enter C.prog f args .normal) [] W) →
      Calls C.prog f args W fun e W' => ∃ v, e = .returned v ∧ s.post enc C.prog fn apart fresh handsOn again W args v W') :
    ReturnsInHanded a C os f .any (fun w args => (s.pre enc C.prog fn conds apart w args ∧ X w args) ∧ sizedMet enc C.prog fn (OpenSpec.ofChange s) apart w args) (s.post enc C.prog fn apart fresh handsOn again) := by
  refine returnsInHanded_of_calls own started noInit witness ?_
  intro w tape i _ hsh _ hok hpre hholds
  obtain ⟨_, _, _, fn', hfn', _, _, _, _, hval⟩ := hok
  have e : fn' = fn := Option.some.inj (hfn'.symm.trans hfn)
  subst e
  obtain ⟨⟨⟨ds, gs, before, hw, hc⟩, hx⟩, hz⟩ := hpre
  have hw' := DataW.Whole.of_heap (w' := w.forCall tape i) (by rfl) hw
  refine (contract (w.forCall tape i) w.heap.size i.args ds gs before hval hw' hc (hz.weights hw) (hX _ _ _ (by rfl) hx) hsh hholds).mono fun e W' ⟨v, he, hp⟩ => ?_
  subst he
  exact ChangeSpec.post_blind hp
end Go.Lv
