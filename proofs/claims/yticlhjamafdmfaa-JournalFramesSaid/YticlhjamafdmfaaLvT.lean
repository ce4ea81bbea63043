import Derived.Test.YticlhjamafdmfaaLvS
set_option linter.unusedVariables false
set_option linter.unusedSimpArgs false
namespace Go.Lv
section
variable {P : Program} {C : Cfg} {call : CallF} {all : Array Oper} {G : Nat → Prop} {F0 : Facts} {L0 : List Nat} {w0 : World} {N : Nat} {E : Nat → Env} {Hs : Nat → Heap} {V : Nat → AV}

abbrev Tr (P : Program) (C : Cfg) (call : CallF) (all : Array Oper) (E : Nat → Env) (Hs : Nat → Heap) (V : Nat → AV) : Prop := Trace P C call all 0 all.toList {} E Hs V

theorem Tr.at_ (T : Tr P C call all E Hs V) {i : Nat} {o : Oper} (h : all[i]? = some o) : StepT P C call all E Hs V i o := by
  have := T.step i o (by simpa using h)
  rwa [Nat.zero_add] at this

theorem Tr.env (T : Tr P C call all E Hs V) {i : Nat} {o : Oper} (h : all[i]? = some o) : E (i + 1) = put (E i) o.dst (V i) := by
  rcases (T.at_ h).out with h1 | h1
  · exact h1.2.2.2
  · exact h1.2.2

/-- What a variable holds ahead of operation i. -/
theorem Tr.hit (T : Tr P C call all E Hs V) (hD : Drw all) {j : Nat} {o : Oper} {t : Nat} (hj : all[j]? = some o) (ht : o.dst = some t) : ∀ i, j < i → i ≤ all.size → E i t = V j := by
  intro i
  induction i with
  | zero => intro h; omega
  | succ i ih =>
    intro h hi
    have hio : all[i]? = some all[i] := by simp
    rw [T.env hio, put_apply]
    by_cases he : all[i].dst = some t
    · rw [if_pos he, hD.dist j i o _ t hj hio ht he]
    · rw [if_neg he]
      rcases Nat.lt_or_ge j i with h1 | h1
      · exact ih h1 (by omega)
      · have : j = i := by omega
        subst this
        rw [hio] at hj
        injection hj with hj
        exact absurd (hj ▸ ht) he

theorem Tr.miss (T : Tr P C call all E Hs V) {t : Nat} : ∀ i, i ≤ all.size → (∀ (j : Nat) (o : Oper), j < i → all[j]? = some o → o.dst ≠ some t) → E i t = E 0 t := by
  intro i
  induction i with
  | zero => intro _ _; rfl
  | succ i ih =>
    intro hi h
    have hio : all[i]? = some all[i] := by simp
    rw [T.env hio, put_apply, if_neg (h i _ (by omega) hio)]
    exact ih (by omega) (fun j o hj => h j o (by omega))

/-- Memory changes at an effect that is carried out, and else nowhere. -/
theorem Tr.heap (T : Tr P C call all E Hs V) (hD : Drw all) {i : Nat} {o : Oper} (h : all[i]? = some o) (hn : ¬ (effOp o.op = true ∧ wants all (E i) o = some true)) : Hs (i + 1) = Hs i := by
  rcases (T.at_ h).out with ⟨h1, h2, h3, h4⟩ | ⟨h1, h2, h3⟩
  · exact h3
  · rcases (hD.cls i o h).1 with he | hp
    · exact absurd ⟨he, h1⟩ hn
    · rw [stepA_pure hp] at h2; exact (pure_heap hp h2).1

theorem Tr.same (T : Tr P C call all E Hs V) (hD : Drw all) {a : Nat} : ∀ b, a ≤ b → b ≤ all.size → (∀ (j : Nat) (o : Oper), a ≤ j → j < b → all[j]? = some o → effOp o.op = false) → Hs b = Hs a := by
  intro b
  induction b with
  | zero => intro h _ _; have : a = 0 := by omega
            subst this; rfl
  | succ b ih =>
    intro h hb hall
    rcases Nat.lt_or_ge b a with h1 | h1
    · have : a = b + 1 := by omega
      subst this; rfl
    · have hbo : all[b]? = some all[b] := by simp
      rw [T.heap hD hbo (fun hh => by rw [hall b _ h1 (by omega) hbo] at hh; cases hh.1)]
      exact ih h1 (by omega) (fun j o h2 h3 => hall j o h2 (by omega))

/-! ### Some operations have come up -/
def Closed (all : Array Oper) (D : Nat → Prop) : Prop := ∀ i, D i → ∀ j, hasE all i j = true → D j

theorem reach_closed {D : Nat → Prop} (hc : Closed all D) : ∀ (k i j : Nat), reachE all k i j = true → (∀ x, hasE all i x = true → D x) → D j := by
  intro k
  induction k with
  | zero => intro i j h; cases h
  | succ k ih =>
    intro i j h hi
    simp only [reachE, Bool.or_eq_true] at h
    rcases h with h | h
    · exact hi j h
    · cases ho : all[i]? with
      | none => rw [ho] at h; cases h
      | some o =>
        rw [ho] at h
        simp only [Option.map_some, Option.getD_some] at h
        obtain ⟨e, he, hb⟩ := Array.any_eq_true'.1 h
        simp only [Bool.and_eq_true] at hb
        have hx : hasE all i e.on = true := by
          unfold hasE
          rw [ho]
          simp only [Option.map_some, Option.getD_some]
          exact Array.any_eq_true'.2 ⟨e, he, by simp [hb.1]⟩
        exact ih e.on j hb.2 (fun x hxx => hc _ (hi _ hx) x hxx)

theorem chain_closed {D : Nat → Prop} (hD : Drw all) (hc : Closed all D) : ∀ (i : Nat) (o : Oper), all[i]? = some o → effOp o.op = true → (∀ x, hasE all i x = true → D x) → ∀ (j : Nat) (o' : Oper), all[j]? = some o' → effOp o'.op = true → j < i → D j := by
  intro i
  induction i using Nat.strongRecOn with
  | _ i ih =>
    intro o ho he hi j o' hj hej hlt
    obtain ⟨k, o'', hk, hek, h1, h2, h3⟩ := hD.chain i j o o' ho hj he hej hlt
    have hDk := hi k h3
    rcases Nat.eq_or_lt_of_le h1 with h4 | h4
    · exact h4 ▸ hDk
    · exact ih k h2 o'' hk hek (fun x hx => hc k hDk x hx) j o' hj hej h4

/-- The variables, D having come up. -/
structure EnvD (all : Array Oper) (E : Nat → Env) (V : Nat → AV) (D : Nat → Prop) (e : Env) : Prop where
  hit : ∀ (j : Nat) (o : Oper) t, all[j]? = some o → D j → o.dst = some t → e t = V j
  miss : ∀ t, (∀ (j : Nat) (o : Oper), all[j]? = some o → D j → o.dst ≠ some t) → e t = E 0 t

theorem EnvD.step {D : Nat → Prop} {e : Env} (h : EnvD all E V D e) (hD : Drw all) {i : Nat} {o : Oper} (hi : all[i]? = some o) : EnvD all E V (fun j => D j ∨ j = i) (put e o.dst (V i)) := by
  refine ⟨fun j o' t hj hDj ht => ?_, fun t ht => ?_⟩
  · rw [put_apply]
    by_cases he : o.dst = some t
    · rw [if_pos he, hD.dist i j o o' t hi hj he ht]
    · rw [if_neg he]
      rcases hDj with h1 | h1
      · exact h.hit j o' t hj h1 ht
      · subst h1
        rw [hi] at hj
        injection hj with hj
        exact absurd (hj ▸ ht) he
  · rw [put_apply, if_neg (ht i o hi (.inr rfl))]
    exact h.miss t (fun j o' hj hDj => ht j o' hj (.inl hDj))

/-- An operation that may come up now sees what it saw in the text's order. -/
theorem EnvD.look {D : Nat → Prop} {e : Env} (h : EnvD all E V D e) (T : Tr P C call all E Hs V) (hD : Drw all) (hc : Closed all D) {i : Nat} {o : Oper} (hi : all[i]? = some o) (hr : ∀ x, hasE all i x = true → D x) (hn : ¬ D i) {t : Nat} (ht : t ∈ looksE all o) : e t = E i t := by
  have hil : i < all.size := (Array.getElem?_eq_some_iff.1 hi).1
  by_cases hx : ∃ (j : Nat) (o' : Oper), all[j]? = some o' ∧ o'.dst = some t
  · obtain ⟨j, o', hj, hd⟩ := hx
    rcases hD.look i j o o' t hi hj ht hd with h1 | h1
    · obtain ⟨o'', ho'', ed, hed, _, hon⟩ := hasE_some h1
      rw [hi] at ho''
      injection ho'' with ho''
      subst ho''
      have hlt : j < i := hon ▸ (hD.cls i o hi).2 ed hed
      rw [h.hit j o' t hj (hr j h1) hd, T.hit hD hj hd i hlt (by omega)]
    · obtain ⟨o'', ho'', ed, hed, _, hon⟩ := hasE_some h1
      have hlt : i < j := by
        have := (hD.cls j o'' ho'').2 ed hed
        omega
      have hnD : ¬ D j := fun hDj => hn (hc j hDj i h1)
      rw [h.miss t (fun k ok hk hDk hdk => hnD (hD.dist k j ok o' t hk hj hdk hd ▸ hDk)), T.miss i (by omega) (fun k ok hki hk hdk => by
        have := hD.dist k j ok o' t hk hj hdk hd
        omega)]
  · have hx' : ∀ (j : Nat) (o' : Oper), all[j]? = some o' → o'.dst ≠ some t := fun j o' hj hd => hx ⟨j, o', hj, hd⟩
    rw [h.miss t (fun j o' hj _ => hx' j o' hj), T.miss i (by omega) (fun j o' _ hj => hx' j o' hj)]

theorem looks_op {o : Oper} {x : Operand} (hx : x ∈ o.op.operands) {t : Nat} (ht : x = .tmp t) : t ∈ looksE all o := by
  unfold looksE
  refine List.mem_append_left _ (List.mem_filterMap.2 ⟨x, by simpa using hx, by rw [ht]⟩)

theorem wants_congr {e e' : Env} {o : Oper} (h : ∀ t ∈ looksE all o, e t = e' t) : wants all e o = wants all e' o := by
  unfold wants
  split
  · rfl
  · rename_i g want hg
    split
    · rename_i d hd
      rw [h d (by unfold looksE; refine List.mem_append_right _ ?_; rw [hg]; simp [hd])]
    · rfl

/-- A load's value at any time at which it may come up. -/
theorem load_any (T : Tr P C call all E Hs V) (hD : Drw all) {D : Nat → Prop} (hc : Closed all D) {p i : Nat} (hp : p ≤ all.size) (hthr : ∀ (j : Nat) (o : Oper), all[j]? = some o → effOp o.op = true → (D j ↔ j < p)) {o : Oper} (hi : all[i]? = some o)
    (hr : ∀ x, hasE all i x = true → D x) (hn : ¬ D i) {t : TypeId} {x : Operand} (hop : o.op = .load t x) (hw : wants all (E i) o = some true) : loadA P (Hs p) t (ev (E i) x) = some (V i) := by
  have hil : i < all.size := (Array.getElem?_eq_some_iff.1 hi).1
  have hat : loadA P (Hs i) t (ev (E i) x) = some (V i) := by
    rcases (T.at_ hi).out with ⟨h1, _⟩ | ⟨h1, h2, h3⟩
    · rw [hw] at h1; cases h1
    · have hpu : pureOp o.op = true := by rw [hop]; rfl
      rw [stepA_pure hpu] at h2; exact (pure_heap hpu h2).2.2 t x hop
  rcases Nat.le_total p i with hpi | hpi
  · have key : ∀ d q, q + d = i → p ≤ q → loadA P (Hs q) t (ev (E i) x) = some (V i) := by
      intro d
      induction d with
      | zero => intro q hq _; have : q = i := by omega
                subst this; exact hat
      | succ d ih =>
        intro q hq hpq
        have hqo : all[q]? = some all[q] := by simp
        by_cases hh : effOp all[q].op = true ∧ wants all (E q) all[q] = some true
        · have := T.early i o t x (by simpa using hi) hop (by simpa using hw) q all[q] (by omega) (by simp) hh.1 (by simpa using hh.2)
          simp only [Nat.zero_add] at this
          rcases this with h1 | h1
          · have hDq := reach_closed hc 8 i q h1 hr
            have := (hthr q _ hqo hh.1).1 hDq
            omega
          · exact h1
        · rw [← T.heap hD hqo hh]
          exact ih (q + 1) (by omega) (by omega)
    exact key (i - p) p (by omega) (Nat.le_refl _)
  · have key : ∀ d, i + d ≤ p → loadA P (Hs (i + d)) t (ev (E i) x) = some (V i) := by
      intro d
      induction d with
      | zero => intro _; exact hat
      | succ d ih =>
        intro hd
        have hq : i + d < all.size := by omega
        have hqo : all[i + d]? = some all[i + d] := by simp
        by_cases hh : effOp all[i + d].op = true ∧ wants all (E (i + d)) all[i + d] = some true
        · have hne : d ≠ 0 := by
            rintro rfl
            simp only [Nat.add_zero] at hqo hh
            rw [hi] at hqo
            injection hqo with hqo
            rw [← hqo, hop] at hh
            cases hh.1
          have := T.late i o t x (by simpa using hi) hop (by simpa using hw) (i + d) all[i + d] (by omega) (by simp) hh.1 (by simpa using hh.2)
          simp only [Nat.zero_add] at this
          rcases this with h1 | h1
          · have hDq := (hthr (i + d) _ hqo hh.1).2 (by omega)
            exact absurd (reach_closed hc 8 (i + d) i h1 (fun y hy => hc _ hDq y hy)) hn
          · exact h1
        · rw [show i + (d + 1) = i + d + 1 by omega, T.heap hD hqo hh]
          exact ih (by omega)
    have := key (p - i) (by omega)
    rwa [show i + (p - i) = p by omega] at this
end
end Go.Lv
