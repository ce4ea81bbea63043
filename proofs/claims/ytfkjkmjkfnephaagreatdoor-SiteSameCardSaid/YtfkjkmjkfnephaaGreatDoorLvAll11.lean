/- A value semantics of the loaded code, its soundness, and walks through functions over it. -/
import Derived.Test.YtfkjkmjkfnephaaGreatDoorLvAll8
import Derived.Below
import Derived.ChangeSlices
import Derived.SizedLaws
import Derived.WideShapes
import Derived.Carry
import Derived.Handed
import Derived.HandedShaped
set_option linter.unusedVariables false
set_option linter.unusedSimpArgs false
namespace Go.Lv
open Go.RowKit (Below)
section
variable {P : Program} {C : Cfg} {W : World}
def allF (W : World) : Facts := { get := fun B i => (W.cell? ⟨B, i, none⟩).bind fun v => if v.oneCell' = true then some v else none, room := fun _ => 0 }
theorem allF_some {B i : Nat} {v : Value} : allF W B i = some v ↔ W.cell? ⟨B, i, none⟩ = some v ∧ v.oneCell' = true := by
 show ((W.cell? ⟨B, i, none⟩).bind fun v => if v.oneCell' = true then some v else none) = some v ↔ _
 cases h : W.cell? ⟨B, i, none⟩ with
 | none => simp
 | some u =>
  constructor
  ·intro h
   simp only [Option.bind_some] at h
   split at h
   ·rename_i hu; injection h with h; subst h; exact ⟨rfl, hu⟩
   ·cases h
  ·rintro ⟨h, hu⟩
   injection h with h; subst h
   simp only [Option.bind_some, if_pos hu]
theorem allF_st : St P (allF W) [] NX W [] :=
 ⟨fun B i v h => allF_some.1 h, rfl, by simp, by simp, by simp, by simp, by simp, by intro B h; exact h.elim, fun B h => rfl, by simp, by simp⟩
theorem law_callsG (W0 : World0 P C) {f : FuncId} {args : List AV} {vs : List Value} (hsig : C.sig f = {}) (h : WF P C f args [] (fun r H' => r = .b true)) (hl : vs.length = args.length)
  (hrel : ∀ (k : Nat) c, args[k]? = some c → Rel (allF W) [] c (vs.getD k undef)) (hG : GlobOK P W) : Calls P f vs.toArray W (fun e w' => e = .returned (.bool true) ∧ Below W.heap.size W w') := by
 obtain ⟨n, r, H', h1, rfl⟩ := h
 have hc := ((lcall_ok W0 n).ok f args [] _ H' h1).1
 rw [hsig] at hc
 refine (hc (allF W) [] W vs allF_st hl hrel ⟨by intro k n hk; simp at hk, by intro j k n m hj; simp at hj⟩ ⟨hG, fun g hg => ⟨hG.lt g hg, by simp, by rintro ⟨j, n, hj, _⟩; simp at hj⟩⟩).mono ?_
 rintro e w' ⟨v, F', L', rfl, hR⟩
 have hv : v = .bool true := by
  have := hR.rel
  cases this; rfl
 subst hv
 refine ⟨rfl, hR.goes.rest.1, hR.goes.rest.2.1, hR.goes.rest.2.2, hR.goes.size, fun k hk => ?_⟩
 refine (hR.goes.keep k hk ?_ (by simp)).1
 rintro ⟨j, n, hj, _⟩
 simp at hj
theorem spot_none {x : Addr} (h0 : W.cell? x ≠ none) : x.spot = none := by
 obtain ⟨b, o, sp⟩ := x
 cases sp with
 | none => rfl
 | some s =>
  exfalso; apply h0
  unfold World.cell?
  simp only
  split <;> simp
theorem rel_str {s : ByteArray} : Rel (allF W) [] (AV.str s.data.toList) (.string s) := .sc _ rfl
theorem rel_nil {F : Facts} {L : List Nat} : ∀ (k : Nat) (c : AV), ([] : List AV)[k]? = some c → Rel F L c (([] : List Value).getD k undef) := by
 intro k c h; simp at h
theorem rel_cons {F : Facts} {L : List Nat} {a : AV} {v : Value} {as_ : List AV} {vs : List Value} (h : Rel F L a v) (hs : ∀ (k : Nat) c, as_[k]? = some c → Rel F L c (vs.getD k undef)) : ∀ (k : Nat) c, (a :: as_)[k]? = some c → Rel F L c ((v :: vs).getD k undef) := by
 intro k c hk
 cases k with
 | zero => injection hk with hk; subst hk; exact h
 | succ k => exact hs k c hk
open Go.ChangeShapes Go.WideShapes in
end
theorem returns_laid {H : Type} {enc : TypeId × Value → H} {a : Assume} {C : Checked} {os : Os} {f : FuncId} {fn : Func} {s : ChangeSpec} {conds : List PathCond} {apart fresh handsOn again : Bool} {X : World → Array Value → Prop}
  (hX : ∀ (w w' : World) (args : Array Value), w.heap = w'.heap → X w args → X w' args)
  (own : ownKnob C.prog.godebug = none) (started : os.Started) (noInit : C.prog.inits.idxOf? f = none) (hfn : C.prog.funcs[f]? = some fn)
  (witness : ∃ (w : World) (tape : Tape) (i : Input), w.os = os ∧ (w.forCall tape i).Shaped C.prog ∧ i.vars = [] ∧ Input.okWide C.prog (w.forCall tape i) .any w.heap.size f i ∧
   ((s.pre enc C.prog fn conds apart (w.forCall tape i).memory i.args ∧ X (w.forCall tape i).memory i.args) ∧ sizedMet enc C.prog fn (OpenSpec.ofChange s) apart (w.forCall tape i).memory i.args) ∧ a.holds C.prog (lone (Frame.enter C.prog f i.args .normal) [] (w.forCall tape i)))
  (contract : ∀ (W : World) (base : Nat) (args : Array Value) (ds gs : List (DataW H)) (before : List MemPlace),
   (∀ (j : Nat) t v, fn.params[j]? = some t → args[j]? = some v → Value.okWide C.prog W .any base t v) →
   DataW.Whole enc C.prog fn.params.toList s.vars apart W args.toList ds gs before →
   conds.all (PathCond.test C.prog ⟨fn.params.toList, ds, s.plain.varTypes C.prog, gs⟩) = true →
   (DataW.weightsEach C.prog (fn.params.toList ++ s.plain.varTypes C.prog) (ds ++ gs)).all (· ≤ reachBytes) = true → X W args → W.ShapedOpen C.prog →
   a.holds C.prog (lone (Frame.enter C.prog f args .normal) [] W) →
   Calls C.prog f args W fun e W' => ∃ v, e = .returned v ∧ s.post enc C.prog fn apart fresh handsOn again W args v W') :
  ReturnsInHanded a C os f .any (fun w args => (s.pre enc C.prog fn conds apart w args ∧ X w args) ∧ sizedMet enc C.prog fn (OpenSpec.ofChange s) apart w args) (s.post enc C.prog fn apart fresh handsOn again) := by
 refine returnsInHanded_of_calls own started noInit witness ?_
 intro w tape i _ hsh _ hok hpre hholds
 obtain ⟨_, _, _, fn', hfn', _, _, _, _, hval⟩ := hok
 have e : fn' = fn := Option.some.inj (hfn'.symm.trans hfn)
 subst e
 obtain ⟨⟨⟨ds, gs, before, hw, hc⟩, hx⟩, hz⟩ := hpre
 have hw' := DataW.Whole.of_heap (w' := w.forCall tape i) (by rfl) hw
 refine (contract (w.forCall tape i) w.heap.size i.args ds gs before hval hw' hc (hz.weights hw) (hX _ _ _ (by rfl) hx) hsh hholds).mono fun e W' ⟨v, he, hp⟩ => ?_
 subst he
 exact ChangeSpec.post_blind hp
end Go.Lv
set_option linter.unusedVariables false
set_option linter.unusedSimpArgs false
namespace Go.Lv
section
variable {P : Program} {H : Heap} {α : Type} {f : α → AV}
end
end Go.Lv
set_option linter.unusedVariables false
namespace Go.Lv
section
variable {α : Type} {f : α → AV}
instance : CellsN (fun l : List α => AV.sl (l.map f)) 1 := ⟨fun _ => rfl⟩
instance : OneOK (fun l : List α => AV.sl (l.map f)) := ⟨fun _ => rfl⟩
instance : NoMark (fun l : List α => AV.sl (l.map f)) := ⟨fun _ => rfl, fun _ => rfl⟩
instance : Cell1 (fun l : List α => AV.sl (l.map f)) := ⟨fun _ => rfl, fun _ => rfl⟩
theorem ix_at {α : Type} [Inhabited α] {l : List α} {i : Nat} (hi : i < l.length) : ix l (i : Int) = l[i] := by
 simp [ix, xgD, xgE hi]
end
section
variable {P : Program} {C : Cfg} {f : FuncId} {args : List AV} {H H0 : Heap} {r : AV}
theorem WF.det (h : WF P C f args H (fun r' H' => r' = r ∧ H' = H0)) {Q : AV → Heap → Prop} : WF P C f args H Q ↔ Q r H0 := by
 obtain ⟨n, r1, H1, h1, rfl, rfl⟩ := h
 constructor
 ·rintro ⟨m, r2, H2, h2, hq⟩
  have e1 := lcall_le (Nat.le_max_left n m) _ _ _ _ h1
  have e2 := lcall_le (Nat.le_max_right n m) _ _ _ _ h2
  rw [e1] at e2
  injection e2 with e2
  injection e2 with e3 e4
  subst e3 e4
  exact hq
 ·intro hq
  exact ⟨n, _, _, h1, hq⟩
theorem rF_eq (h : WF P C f args H (fun r' H' => r' = r ∧ H' = H0)) {Q : K (AV → Heap → Prop)} : @rF P C f args H Q = Q.v r H0 := propext h.det
end
@[go_sem] theorem pickA_yes {b : Bool} {x y : AV} (h : b = true) : pickA (.v (.bool b)) x y = some x := by subst h; rfl
@[go_sem] theorem pickA_no' {b : Bool} {x y : AV} (h : b = false) : pickA (.v (.bool b)) x y = some y := by subst h; rfl
@[go_sem] theorem pickA_yes' {b : Bool} {x y : AV} (h : ¬ b = false) : pickA (.v (.bool b)) x y = some x := by
 cases b with
 | true => rfl
 | false => exact absurd rfl h
@[go_sem] theorem pickA_no {b : Bool} {x y : AV} (h : ¬ b = true) : pickA (.v (.bool b)) x y = some y := by
 cases b with
 | true => exact absurd rfl h
 | false => rfl
end Go.Lv
