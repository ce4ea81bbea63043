/- A value semantics of the loaded code, its soundness, and walks through functions over it. -/
import Derived.Test.YtbfcbjmoijiffaaGreatLvAll8
import Derived.Below
import Derived.ChangeSlices
import Derived.SizedLaws
import Derived.WideShapes
import Derived.Carry
import Derived.Handed
import Derived.HandedShaped
set_option linter.unusedVariables false
set_option linter.unusedSimpArgs false
/-! From a walk to a call in any memory. -/
namespace Go.Lv
open Go.RowKit (Below)
section
variable {P : Program} {C : Cfg} {W : World}

/-- All that stands in memory, for good. -/
def allF (W : World) : Facts := { get := fun B i => (W.cell? ⟨B, i, none⟩).bind fun v => if v.oneCell' = true then some v else none, room := fun _ => 0 }
theorem allF_some {B i : Nat} {v : Value} : allF W B i = some v ↔ W.cell? ⟨B, i, none⟩ = some v ∧ v.oneCell' = true := by
  show ((W.cell? ⟨B, i, none⟩).bind fun v => if v.oneCell' = true then some v else none) = some v ↔ _
  cases h : W.cell? ⟨B, i, none⟩ with
  | none => simp
  | some u =>
    constructor
    · intro h
      simp only [Option.bind_some] at h
      split at h
      · rename_i hu; injection h with h; subst h; exact ⟨rfl, hu⟩
      · cases h
    · rintro ⟨h, hu⟩
      injection h with h; subst h
      simp only [Option.bind_some, if_pos hu]
theorem allF_st : St P (allF W) [] NX W [] :=
  ⟨fun B i v h => allF_some.1 h, rfl, by simp, by simp, by simp, by simp, by simp, by intro B h; exact h.elim, fun B h => rfl, by simp, by simp⟩

/-- The call of a function that the walk is through, in any memory. -/
theorem law_callsG (W0 : World0 P C) {f : FuncId} {args : List AV} {vs : List Value} (hsig : C.sig f = {}) (h : WF P C f args [] (fun r H' => r = .b true)) (hl : vs.length = args.length)
    (hrel : ∀ (k : Nat) c, args[k]? = some c → Rel (allF W) [] c (vs.getD k undef)) (hG : GlobOK P W) : Calls P f vs.toArray W (fun e w' => e = .returned (.bool true) ∧ Below W.heap.size W w') := by
  obtain ⟨n, r, H', h1, rfl⟩ := h
  have hc := ((lcall_ok W0 n).ok f args [] _ H' h1).1
  rw [hsig] at hc
  refine (hc (allF W) [] W vs allF_st hl hrel ⟨by intro k n hk; simp at hk, by intro j k n m hj; simp at hj⟩ ⟨hG, fun g hg => ⟨hG.lt g hg, by simp, by rintro ⟨j, n, hj, _⟩; simp at hj⟩⟩).mono ?_
  rintro e w' ⟨v, F', L', rfl, hR⟩
  have hv : v = .bool true := by
    have := hR.rel
    cases this; rfl
  subst hv
  refine ⟨rfl, hR.goes.rest.1, hR.goes.rest.2.1, hR.goes.rest.2.2, hR.goes.size, fun k hk => ?_⟩
  refine (hR.goes.keep k hk ?_ (by simp)).1
  rintro ⟨j, n, hj, _⟩
  simp at hj

theorem spot_none {x : Addr} (h0 : W.cell? x ≠ none) : x.spot = none := by
  obtain ⟨b, o, sp⟩ := x
  cases sp with
  | none => rfl
  | some s =>
    exfalso; apply h0
    unfold World.cell?
    simp only
    split <;> simp

theorem rel_str {s : ByteArray} : Rel (allF W) [] (AV.str s.data.toList) (.string s) := .sc _ rfl
theorem rel_nil {F : Facts} {L : List Nat} : ∀ (k : Nat) (c : AV), ([] : List AV)[k]? = some c → Rel F L c (([] : List Value).getD k undef) := by
  intro k c h; simp at h
theorem rel_cons {F : Facts} {L : List Nat} {a : AV} {v : Value} {as_ : List AV} {vs : List Value} (h : Rel F L a v) (hs : ∀ (k : Nat) c, as_[k]? = some c → Rel F L c (vs.getD k undef)) : ∀ (k : Nat) c, (a :: as_)[k]? = some c → Rel F L c ((v :: vs).getD k undef) := by
  intro k c hk
  cases k with
  | zero => injection hk with hk; subst hk; exact h
  | succ k => exact hs k c hk

open Go.ChangeShapes Go.WideShapes in
end
end Go.Lv
