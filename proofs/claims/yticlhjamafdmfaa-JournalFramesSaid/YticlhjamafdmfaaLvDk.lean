import Derived.Test.YticlhjamafdmfaaLvRng
set_option linter.unusedVariables false
set_option linter.unusedSimpArgs false
/-! Maps copied, and the lengths of what they hold added up. -/
namespace Go.Lv
open Go.RowKit (Below)
section
variable {P : Program} {F : Facts} {L : List Nat} {w : World} {H : Heap}

def strKey : AV → Bool
  | .v (.string _) => true
  | _ => false
def kvOf (e : MapEntry) : Value × Value := (e.key, e.val)

/-- What a copy's loop comes to. -/
def CopiesMap (P : Program) (f : FuncId) : Prop :=
  ∀ (w : World) (B : Nat) (es : Array MapEntry) (clk : Nat), w.heap[B]? = some (.map es clk) → MapKept.Stamped es clk → (∀ x ∈ es.toList, MapKept.IsKey .string x.key) →
    Calls P f #[.map (some B)] w fun e w' => e = .returned (.map (some w.heap.size)) ∧ ∃ os oclk, w'.heap[w.heap.size]? = some (.map os oclk) ∧ MapKept.Stamped os oclk ∧ (es.toList.map kvOf).Perm (os.toList.map kvOf) ∧ Below w.heap.size w w'

def copiedT (H : Heap) : List AV → Option (AV × Heap)
  | [.mp j] => (mapOf H j).bind fun kv => if kv.1.all strKey = true then some (.mp H.length, H ++ [[.mv kv.1 kv.2]]) else none
  | _ => none

theorem keys_str {ks : List AV} {es fs : List MapEntry} (hpm : fs.Perm es) (hl : ks.length = fs.length) (h4 : ∀ (i : Nat) k, ks[i]? = some k → ∃ e, fs[i]? = some e ∧ Rel F L k e.key) (hk : ks.all strKey = true) : ∀ x ∈ es, MapKept.IsKey .string x.key := by
  intro x hx
  have hx' := hpm.mem_iff.2 hx
  obtain ⟨i, hi⟩ := List.mem_iff_getElem?.1 hx'
  have hil := (List.getElem?_eq_some_iff.1 hi).1
  have hki : ks[i]? = some ks[i] := List.getElem?_eq_getElem (by omega)
  obtain ⟨e, he, hr⟩ := h4 i _ hki
  rw [hi] at he; injection he with he; subst he
  have := List.all_eq_true.1 hk _ (List.mem_of_getElem? hki)
  generalize ks[i] = k at *
  unfold strKey at this
  split at this
  · obtain ⟨e, _⟩ := hr.v_eq
    rw [← e]; trivial
  · cases this

theorem copiedT_ok {f : FuncId} (hc : CopiesMap P f) {args : List AV} {r : AV} {H' : Heap} (h : copiedT H args = some (r, H')) : CallOK P {} f args H r H' := by
  intro F L w vs hS hvl hrel hown
  unfold copiedT at h
  split at h
  · rename_i j
    obtain ⟨⟨ks, us⟩, hmo, h⟩ := Option.bind_eq_some_iff.1 h
    simp only at h
    split at h
    · rename_i hks
      injection h with h; injection h with h1 h2; subst h1 h2
      match vs, hvl with
      | [v], _ =>
        have r0 : Rel F L (.mp j) v := hrel 0 _ rfl
        cases r0 with
        | mp _ B hB =>
          obtain ⟨es, fs, clk, h1, hst, hpm, h2, h3, h4, h5⟩ := hS.mob j ks us B (mapOf_some hmo) hB
          refine (hc w B es.toArray clk h1 hst (by simpa using keys_str hpm h2 h4 hks)).mono ?_
          rintro e w' ⟨rfl, os, oclk, ho, hso, hpo, hb⟩
          obtain ⟨hS1, hg1⟩ := hS.below hb
          have hpf : (fs.map kvOf).Perm (os.toList.map kvOf) := (hpm.map kvOf).trans (by simpa using hpo)
          obtain ⟨os', hp1, hp2⟩ := perm_lift hpf os.toList rfl
          have hlen : os'.length = fs.length := by have := congrArg List.length hp2; simpa using this
          have hget : ∀ (i : Nat) (e : MapEntry), fs[i]? = some e → ∃ e', os'[i]? = some e' ∧ e'.key = e.key ∧ e'.val = e.val := by
            intro i e he
            have h1 : (os'.map kvOf)[i]? = (fs.map kvOf)[i]? := by rw [hp2]
            rw [List.getElem?_map, List.getElem?_map, he] at h1
            obtain ⟨e', h2, h3⟩ := Option.map_eq_some_iff.1 h1
            injection h3 with h3 h4
            exact ⟨e', h2, h3, h4⟩
          have hm : MapAt F L w' w.heap.size ks us := by
            refine ⟨os.toList, os', oclk, by simpa using ho, by simpa using hso, hp1, by omega, by omega, fun i k hk => ?_, fun i v hv => ?_⟩
            · obtain ⟨e, he, hr⟩ := h4 i k hk
              obtain ⟨e', h1, h2, h3⟩ := hget i e he
              exact ⟨e', h1, by rw [h2]; exact hr⟩
            · obtain ⟨e, he, hr⟩ := h5 i v hv
              obtain ⟨e', h1, h2, h3⟩ := hget i e he
              exact ⟨e', h1, by rw [h3]; exact hr⟩
          have hbL : w.heap.size ∉ L := fun hm => by have := hS.lt _ hm; omega
          have hlt : w.heap.size < w'.heap.size := (Array.getElem?_eq_some_iff.1 ho).1
          have hS2 := hS1.addMap (B := w.heap.size) hbL (by intro h; exact h.elim) (fun i => by
            cases hf : F w.heap.size i with
            | none => rfl
            | some v => have := hS.ltF hf; omega) hlt hm
          refine ⟨_, F, _, rfl, ?_, hS2, ⟨hg1.size, fun b hb hg hL => hg1.keep b hb (fun h => h.elim) hL, hg1.mono, fun j' b hj => ?_, fun b hb => ?_, hg1.rest, hg1.room⟩, by simp, by simp⟩
          · refine .mp _ _ ?_
            rw [← hS.len, List.getElem?_append_right (Nat.le_refl _), Nat.sub_self]; rfl
          · rw [List.getElem?_append_left (List.getElem?_eq_some_iff.1 hj).1]; exact hj
          · rcases List.mem_append.1 hb with h | h
            · exact .inl h
            · simp at h; subst h; exact .inr (Nat.le_refl _)
      | [], h => simp at h
      | _ :: _ :: _, h => simp at h
    · cases h
  · cases h

/-! ### Lengths added up -/
def lenV : Value → Int
  | .slice _ n _ => n
  | _ => 0
def isSl : Value → Bool
  | .slice .. => true
  | _ => false
def lenA : AV → Option Nat
  | .sl xs => some xs.length
  | .v x => if isNilV x = true then some 0 else none
  | _ => none
def lensA : List AV → Option Nat
  | [] => some 0
  | a :: as => (lenA a).bind fun n => (lensA as).map fun m => n + m

def SumsMap (P : Program) (f : FuncId) : Prop :=
  ∀ (w : World) (B B' : Nat) (arr : Array Value) (t : TypeId) (es : Array MapEntry) (clk : Nat), w.heap[B]? = some (.cells arr t (0, 0)) → arr[1]? = some (.map (some B')) → w.heap[B']? = some (.map es clk) → MapKept.Stamped es clk → (∀ x ∈ es.toList, isSl x.val = true) →
    (es.toList.map fun e => lenV e.val).sum ≤ 4611686018427387904 →
    Calls P f #[.pointer (some ⟨B, 0, none⟩)] w fun e w' => e = .returned (.int .i64 (es.toList.map fun e => lenV e.val).sum) ∧ Below w.heap.size w w'

def usedT (H : Heap) : List AV → Option (AV × Heap)
  | [.ptr j 0] => (H[j]?).bind fun cs => match cs with
    | _ :: .mp a :: _ => (mapOf H a).bind fun kv => (lensA kv.2).bind fun n => if n ≤ 4611686018427387904 then some (.i n, H) else none
    | _ => none
  | _ => none

theorem lenA_rel {a : AV} {v : Value} {n : Nat} (h : lenA a = some n) (hr : Rel F L a v) : isSl v = true ∧ lenV v = n := by
  unfold lenA at h
  split at h
  · rename_i xs
    injection h with h; subst h
    cases hr with
    | sl0 a cap h => exact ⟨rfl, rfl⟩
    | sl xs B o len cap sz vals hl h0 hc hs hn hf hr => exact ⟨rfl, by simp [lenV, hl]⟩
  · rename_i x
    split at h
    · rename_i hx
      injection h with h; subst h
      have := isNilV_spec hx
      subst this
      obtain ⟨e, _⟩ := hr.v_eq
      rw [← e]; exact ⟨rfl, rfl⟩
    · cases h
  · cases h
theorem lensA_rel : ∀ {us : List AV} {fs : List MapEntry} {n : Nat}, lensA us = some n → us.length = fs.length → (∀ (i : Nat) v, us[i]? = some v → ∃ e, fs[i]? = some e ∧ Rel F L v e.val) → (∀ x ∈ fs, isSl x.val = true) ∧ (fs.map fun e => lenV e.val).sum = n := by
  intro us
  induction us with
  | nil =>
    intro fs n h hl hr
    injection h with h; subst h
    have : fs = [] := List.eq_nil_of_length_eq_zero (by simpa using hl.symm)
    subst this
    exact ⟨by simp, rfl⟩
  | cons u us ih =>
    intro fs n h hl hr
    cases fs with
    | nil => simp at hl
    | cons e fs =>
      unfold lensA at h
      obtain ⟨k, hk, h⟩ := Option.bind_eq_some_iff.1 h
      obtain ⟨m, hm, rfl⟩ := Option.map_eq_some_iff.1 h
      obtain ⟨e', he', hre⟩ := hr 0 u rfl
      injection he' with he'; subst he'
      obtain ⟨h1, h2⟩ := lenA_rel hk hre
      obtain ⟨h3, h4⟩ := ih hm (by simpa using hl) (fun i v hv => hr (i + 1) v hv)
      refine ⟨fun x hx => ?_, ?_⟩
      · rcases List.mem_cons.1 hx with rfl | hx
        · exact h1
        · exact h3 x hx
      · rw [List.map_cons, List.sum_cons, h2, h4]; omega
theorem sum_perm {l m : List Int} (h : l.Perm m) : l.sum = m.sum := by
  induction h with
  | nil => rfl
  | cons x h ih => rw [List.sum_cons, List.sum_cons, ih]
  | swap x y l => simp only [List.sum_cons]; omega
  | trans h1 h2 ih1 ih2 => exact ih1.trans ih2

theorem usedT_ok {f : FuncId} (hc : SumsMap P f) {args : List AV} {r : AV} {H' : Heap} (h : usedT H args = some (r, H')) : CallOK P {} f args H r H' := by
  intro F L w vs hS hvl hrel hown
  unfold usedT at h
  split at h
  · rename_i j
    obtain ⟨cs, hj, h⟩ := Option.bind_eq_some_iff.1 h
    split at h
    · rename_i c0 a rest
      obtain ⟨⟨ks, us⟩, hmo, h⟩ := Option.bind_eq_some_iff.1 h
      obtain ⟨n, hn, h⟩ := Option.bind_eq_some_iff.1 h
      split at h
      · rename_i hle
        injection h with h; injection h with h1 h2; subst h1 h2
        match vs, hvl with
        | [v], _ =>
          have r0 : Rel F L (.ptr j 0) v := hrel 0 _ rfl
          cases r0 with
          | ptr _ _ B hB =>
            obtain ⟨arr, t, m1, m2, m3, m4⟩ := hS.obj j _ B hj (by simp) (by simp [isMv]) hB
            have r1 := m4 1 _ rfl
            cases hv1 : arr.getD 1 undef with
            | map b =>
              rw [hv1] at r1
              cases r1 with
              | mp _ B' hB' =>
                obtain ⟨es, fs, clk, h1, hst, hpm, h2, h3, h4, h5⟩ := hS.mob a ks us B' (mapOf_some hmo) hB'
                obtain ⟨k1, k2⟩ := lensA_rel hn h3 h5
                have hsum : (es.map fun e => lenV e.val).sum = n := by rw [← k2]; exact (sum_perm (hpm.map _)).symm
                have harr : arr.toArray[1]? = some (.map (some B')) := by
                  rw [List.getElem?_toArray]
                  have hl : 1 < arr.length := by simp at m2; omega
                  rw [List.getElem?_eq_getElem hl]
                  rw [List.getD_eq_getElem?_getD, List.getElem?_eq_getElem hl] at hv1
                  exact congrArg some hv1
                refine (hc w B B' arr.toArray t es.toArray clk m1 harr h1 hst (fun x hx => k1 x (hpm.mem_iff.2 (by simpa using hx))) (by simp only; rw [hsum]; omega)).mono ?_
                rintro e w' ⟨rfl, hb⟩
                obtain ⟨hS1, hg1⟩ := hS.below hb
                refine ⟨_, F, L, rfl, ?_, hS1, hg1.weaken (fun _ _ h => h.elim), by simp, by simp⟩
                simp only [hsum]
                exact .sc _ rfl
            | _ => rw [hv1] at r1; cases r1
        | [], h => simp at h
        | _ :: _ :: _, h => simp at h
      · cases h
    · cases h
  · cases h
end
end Go.Lv
