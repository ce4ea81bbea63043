import Derived.Test.YticlhjamafdmfaaLvN
set_option linter.unusedVariables false
set_option linter.unusedSimpArgs false
namespace Go.Lv
section
variable {P : Program} {C : Cfg} {G : Nat → Prop} {F0 : Facts} {L0 : List Nat} {w0 : World} {N : Nat} {O O' : OSet} {A A' : List (Nat × Nat)} {e : Env} {H : Heap} {F : Facts} {L : List Nat} {a : Act} {w : World}

theorem takeO_sub {n : Nat} {x : Operand} (h : takeO O A n x = some O') : ∀ p ∈ O', p ∈ O := by
  cases x with
  | tmp t =>
    obtain ⟨s, hs, rfl⟩ := Option.map_eq_some_iff.1 h
    exact fun p hp => (List.mem_filter.1 hp).1
  | const v =>
    simp only [takeO] at h
    split at h
    · injection h with h; subst h; exact fun p hp => hp
    · cases h
  | global g => cases h
  | func f => cases h

theorem takeArgs_sub : ∀ (ps : List (Option Nat)) (as : List Operand) (O O' : OSet), takeArgs A ps as O = some O' → ∀ p ∈ O', p ∈ O := by
  intro ps
  induction ps with
  | nil => intro as O O' h; simp only [takeArgs] at h; injection h with h; subst h; exact fun p hp => hp
  | cons p0 ps ih =>
    intro as O O' h
    cases as with
    | nil => cases p0 <;> simp [takeArgs] at h
    | cons x as =>
      cases p0 with
      | none => simp only [takeArgs] at h; exact ih as O O' h
      | some n =>
        simp only [takeArgs] at h
        obtain ⟨O1, h1, h2⟩ := Option.bind_eq_some_iff.1 h
        exact fun p hp => takeO_sub h1 p (ih as O1 O' h2 p hp)

theorem mem_addO {d : Option Nat} {c n : Nat} {X : OSet} : ∃ new : OSet, addO d c n X = new ++ X ∧ ∀ p ∈ new, d = some p.1 := by
  cases d with
  | none => exact ⟨[], rfl, by simp⟩
  | some d => exact ⟨[(d, c, n)], rfl, by simp⟩

theorem chkOp_shape {o : Oper} (h : chkOp1 P C o O A = some (O', A')) : ∃ new O1, O' = new ++ killO o.dst O1 ∧ (∀ p ∈ O1, p ∈ O) ∧ (∀ p ∈ new, o.dst = some p.1) ∧ (A' = killA o.dst A ∨ o.guard = none) := by
  have keep : ∀ {p : OSet × List (Nat × Nat)}, some p = some (O', A') → p = (killO o.dst O, killA o.dst A) → ∃ new O1, O' = new ++ killO o.dst O1 ∧ (∀ p ∈ O1, p ∈ O) ∧ (∀ p ∈ new, o.dst = some p.1) ∧ (A' = killA o.dst A ∨ o.guard = none) := by
    intro p hp he
    injection hp with hp
    rw [he] at hp
    injection hp with h1 h2
    subst h1 h2
    exact ⟨[], O, rfl, fun p hp => hp, by simp, .inl rfl⟩
  have add : ∀ {n : Nat} {O1 : OSet}, (∀ p ∈ O1, p ∈ O) → some (addO o.dst 0 n (killO o.dst O1), killA o.dst A) = some (O', A') → ∃ new O1, O' = new ++ killO o.dst O1 ∧ (∀ p ∈ O1, p ∈ O) ∧ (∀ p ∈ new, o.dst = some p.1) ∧ (A' = killA o.dst A ∨ o.guard = none) := by
    intro n O1 h1 h2
    injection h2 with h2
    injection h2 with h2 h3
    subst h2 h3
    obtain ⟨new, hn, hd⟩ := mem_addO (d := o.dst) (c := 0) (n := n) (X := killO o.dst O1)
    exact ⟨new, O1, hn, h1, hd, .inl rfl⟩
  unfold chkOp1 at h
  dsimp only at h
  split at h
  · exact keep h rfl
  split at h
  · split at h
    · split at h
      · exact add (fun p hp => hp) h
      · exact keep h rfl
    · exact keep h rfl
  · split at h
    · split at h
      · exact add (fun p hp => hp) h
      · exact keep h rfl
    · exact keep h rfl
  · split at h
    · rename_i d' hd hg
      split at h
      · exact keep h rfl
      · injection h with h; injection h with h1 h2; subst h1 h2
        exact ⟨[], O, rfl, fun p hp => hp, by simp, .inr hg⟩
    · exact keep h rfl
  · split at h
    · split at h
      · exact keep h rfl
      · exact add (fun p hp => (List.mem_filter.1 hp).1) h
    · exact keep h rfl
  · split at h
    · split at h
      · exact keep h rfl
      · exact add (fun p hp => (List.mem_filter.1 hp).1) h
    · exact keep h rfl
  · split at h
    · exact add (fun p hp => hp) h
    · cases h
  · split at h
    · obtain ⟨n, _, h⟩ := Option.bind_eq_some_iff.1 h
      obtain ⟨O1, hO1, h⟩ := Option.map_eq_some_iff.1 h
      exact add (takeO_sub hO1) (congrArg some h)
    · cases h
  · obtain ⟨O1, hO1, h⟩ := Option.map_eq_some_iff.1 h
    injection h with h1 h2; subst h1 h2
    refine ⟨_, O1, rfl, takeArgs_sub _ _ _ _ hO1, fun p hp => ?_, .inl rfl⟩
    split at hp
    · rename_i d hd
      obtain ⟨q, _, rfl⟩ := List.mem_map.1 hp
      exact hd
    · cases hp
  · exact keep h rfl
  · exact keep h rfl

theorem undef_comp (c : Nat) : (compOf undef c).ownBlock = none := by
  cases c <;> simp [compOf, undef, Value.ownBlock]

theorem skip_rel {F : Facts} {L : List Nat} : Rel F L skipA undef := .tup [] [] rfl (fun k c hk => by simp at hk)

theorem skip_ok (hI : Inv P G F0 L0 w0 N O e H F L a w) (hA : AliasOK A a) {o : Oper} (hc : chkOp P C N o O A = some (O', A')) (hg : o.guard ≠ none) :
    Inv P G F0 L0 w0 N O' (put e o.dst skipA) H F L (a.put o.dst undef) w ∧ AliasOK A' (a.put o.dst undef) := by
  obtain ⟨hd, hc⟩ := dst_lt hc
  obtain ⟨new, O1, rfl, h1, h2, h3⟩ := chkOp_shape hc
  refine ⟨hI.step (G1 := fun _ => False) hd hI.st (Goes.refl _ F L w) skip_rel (fun _ _ h => h.elim) h1 (fun _ _ _ _ h => h) (fun p hp => ⟨h2 p hp, own_none (undef_comp _), fun B hB => ?_⟩) (fun p hp B hB => ?_) (fun p hp q hq hne B hB => ?_), ?_⟩
  · rw [undef_comp] at hB; cases hB
  · rw [undef_comp] at hB; cases hB
  · rw [undef_comp] at hB; cases hB
  · rcases h3 with h3 | h3
    · subst h3
      exact hA.kill (fun d' he => Nat.lt_of_lt_of_le (hd d' he) hI.size) undef
    · exact absurd h3 hg

theorem wants_ok (hI : Inv P G F0 L0 w0 N O e H F L a w) {all : Array Oper} {o : Oper} {t : Bool} (h : wants all e o = some t) : Region.wanted o (yielded all a.tmps) = t := by
  unfold wants at h
  unfold Region.wanted
  split at h
  · rename_i hg
    injection h with h
    rw [hg]
    exact h
  · rename_i j want hg
    rw [hg]
    split at h
    · rename_i d hd
      split at h
      · rename_i b hb
        injection h with h
        have hr := hI.tie d
        rw [hb] at hr
        obtain ⟨hv, _⟩ := hr.v_eq
        have hget : a.tmps[d]? = some (.bool b) := by
          rw [Array.getD_eq_getD_getElem?] at hv
          cases hx : a.tmps[d]? with
          | none => rw [hx] at hv; simp [undef] at hv
          | some x => rw [hx] at hv; simp at hv; rw [hv]
        simp only [yielded, hd, Option.bind_some, hget]
        rw [← h]
        cases b <;> cases want <;> rfl
      · rename_i xs hb
        split at h
        · rename_i hx
          injection h with h
          have hx0 : xs = [] := by simpa using hx
          subst hx0
          have hr := hI.tie d
          rw [hb] at hr
          rw [← h]
          generalize hv : a.tmps.getD d undef = v at hr
          cases hr with
          | tup _ arr hl hr =>
            have ha : arr = [] := List.eq_nil_of_length_eq_zero (by simpa using hl)
            subst ha
            rw [Array.getD_eq_getD_getElem?] at hv
            simp only [yielded, hd, Option.bind_some]
            cases hg : a.tmps[d]? with
            | none => cases want <;> rfl
            | some x => rw [hg] at hv; simp at hv; subst hv; cases want <;> rfl
        · cases h
      · cases h
    · cases h

theorem lops_ok {call : CallF} (hK : Known P C call) {all : Array Oper} {Q : Exit → Act → World → Prop} : ∀ (os : List Oper) (l : List Nat) (O : OSet) (A : List (Nat × Nat)) (e : Env) (H : Heap) (F : Facts) (L : List Nat) (a : Act) (w : World) (e' : Env) (H' : Heap) (O' : OSet) (A' : List (Nat × Nat)),
    l.length = os.length → (∀ (k i : Nat) (o : Oper), l[k]? = some i → os[k]? = some o → all[i]? = some o) → Inv P G F0 L0 w0 N O e H F L a w → AliasOK A a → lops P C call all os e H = some (e', H') → chkOps P C N os O A = some (O', A') →
    (∀ F' L' a' w', Inv P G F0 L0 w0 N O' e' H' F' L' a' w' → Q .normal a' w') → wpOps P all Q l a w := by
  intro os
  induction os with
  | nil =>
    intro l O A e H F L a w e' H' O' A' hl hall hI hA h hc hQ
    have : l = [] := List.eq_nil_of_length_eq_zero (by simpa using hl)
    subst this
    simp only [lops] at h
    injection h with h; injection h with h1 h2; subst h1 h2
    simp only [chkOps] at hc
    injection hc with hc; injection hc with h1 h2; subst h1 h2
    exact hQ F L a w hI
  | cons o os ih =>
    intro l O A e H F L a w e' H' O' A' hl hall hI hA h hc hQ
    cases l with
    | nil => simp at hl
    | cons i l =>
      have ho : all[i]? = some o := hall 0 i o rfl rfl
      have hl' : l.length = os.length := by simpa using hl
      have hall' : ∀ (k i : Nat) (o : Oper), l[k]? = some i → os[k]? = some o → all[i]? = some o := fun k i o h1 h2 => hall (k + 1) i o (by simpa using h1) (by simpa using h2)
      simp only [chkOps] at hc
      obtain ⟨⟨O1, A1⟩, hc1, hc2⟩ := Option.bind_eq_some_iff.1 hc
      simp only [lops] at h
      simp only [wpOps, ho]
      split at h
      · cases h
      · rename_i hw
        rw [wants_ok hI hw]
        have hg : o.guard ≠ none := by
          intro hg
          simp [wants, hg] at hw
        obtain ⟨hI1, hA1⟩ := skip_ok hI hA hc1 hg
        exact ih l O1 A1 _ H F L _ w e' H' O' A' hl' hall' hI1 hA1 h hc2 hQ
      · rename_i hw
        rw [wants_ok hI hw]
        obtain ⟨⟨r, H1⟩, h1, h2⟩ := Option.bind_eq_some_iff.1 h
        simp only [if_true]
        exact .inl (op_ok hK hI hA h1 hc1 fun F' L' u w' hI' hA' => ih l O1 A1 _ H1 F' L' _ w' e' H' O' A' hl' hall' hI' hA' h2 hc2 hQ)

end
end Go.Lv
