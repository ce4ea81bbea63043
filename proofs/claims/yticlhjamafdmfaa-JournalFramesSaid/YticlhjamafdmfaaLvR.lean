import Derived.Test.YticlhjamafdmfaaLvV
set_option linter.unusedVariables false
set_option linter.unusedSimpArgs false
namespace Go.Lv
section
variable {P : Program} {C : Cfg} {G : Nat → Prop} {F0 : Facts} {L0 : List Nat} {w0 : World} {N : Nat} {O O' : OSet} {A A' : List (Nat × Nat)} {e : Env} {H : Heap} {F : Facts} {L : List Nat} {a : Act} {w : World}

/-! ### Code -/
def Ex.toExit : Ex → Exit
  | .normal => .normal
  | .exit id => .exit id
  | .ret => .ret

/-- What holds where a piece of code is left. -/
def Left (ret : OSet → Bool) (R : ChkR) (x : Ex) (O : OSet) : Prop :=
  match x with
  | .normal => ∃ O1, R.1 = some O1 ∧ ∀ p ∈ O1, p ∈ O
  | .exit id => ∃ O1, (id, O1) ∈ R.2 ∧ ∀ p ∈ O1, p ∈ O
  | .ret => ret O = true

theorem sub_inter1 {O O' : OSet} : ∀ p ∈ interO O O', p ∈ O := fun p hp => (List.mem_filter.1 hp).1
theorem sub_inter2 {O O' : OSet} : ∀ p ∈ interO O O', p ∈ O' := fun p hp => by simpa using (List.mem_filter.1 hp).2

theorem join_left {x y : Option OSet} {O1 : OSet} (h : x = some O1) : ∃ O2, joinO x y = some O2 ∧ ∀ p ∈ O2, p ∈ O1 := by
  subst h
  cases y with
  | none => exact ⟨O1, rfl, fun p hp => hp⟩
  | some O' => exact ⟨_, rfl, sub_inter1⟩
theorem join_right {x y : Option OSet} {O1 : OSet} (h : y = some O1) : ∃ O2, joinO x y = some O2 ∧ ∀ p ∈ O2, p ∈ O1 := by
  subst h
  cases x with
  | none => exact ⟨O1, rfl, fun p hp => hp⟩
  | some O' => exact ⟨_, rfl, sub_inter2⟩

theorem join_fold : ∀ (l : List OSet) (x : Option OSet), (∀ O1, x = some O1 → ∃ O2, l.foldl (fun x O => joinO x (some O)) x = some O2 ∧ ∀ p ∈ O2, p ∈ O1) ∧ ∀ O1 ∈ l, ∃ O2, l.foldl (fun x O => joinO x (some O)) x = some O2 ∧ ∀ p ∈ O2, p ∈ O1 := by
  intro l
  induction l with
  | nil => intro x; exact ⟨fun O1 h => ⟨O1, h, fun p hp => hp⟩, by simp⟩
  | cons O l ih =>
    intro x
    refine ⟨fun O1 h => ?_, fun O1 h => ?_⟩
    · obtain ⟨O2, h1, h2⟩ := join_left (y := some O) h
      obtain ⟨O3, h3, h4⟩ := (ih (joinO x (some O))).1 O2 h1
      exact ⟨O3, h3, fun p hp => h2 p (h4 p hp)⟩
    · rcases List.mem_cons.1 h with rfl | h
      · obtain ⟨O2, h1, h2⟩ := join_right (x := x) (y := some O1) rfl
        obtain ⟨O3, h3, h4⟩ := (ih (joinO x (some O1))).1 O2 h1
        exact ⟨O3, h3, fun p hp => h2 p (h4 p hp)⟩
      · exact (ih (joinO x (some O))).2 O1 h

/-- A loop, by rounds that are numbered downwards. -/
theorem wp_loop_down {c : Code} {Q : Exit → Act → World → Prop} (J : Nat → Act → World → Prop)
    (round : ∀ n a w, J n a w → c.wp P (Exit.then (fun a' w' => ∃ m, m < n ∧ J m a' w') Q) a w) : ∀ n a w, J n a w → (Code.loop c).wp P Q a w := by
  intro n0 a0 w0 h0 b k cs
  have key : ∀ n a w, J n a w → ∃ e a' w', Q e a' w' ∧ Arrives P (lone (b.at a (.code c :: .inLoop c :: k)) cs w) b k cs e a' w' := by
    intro n
    induction n using Nat.strongRecOn with
    | _ n ih =>
      intro a w hJ
      obtain ⟨e, a1, w1, hq, harr⟩ := round n a w hJ b (.inLoop c :: k) cs
      cases e with
      | normal =>
        obtain ⟨m, hm, hJ'⟩ := hq
        obtain ⟨e2, a2, w2, hq2, harr2⟩ := ih m hm a1 w1 hJ'
        exact ⟨e2, a2, w2, hq2, .of_steps (Steps.trans harr (.one step_inLoop)) harr2⟩
      | exit id => exact ⟨_, a1, w1, hq, .pass (x := .inLoop c) rfl (fun _ _ => .inl (by simp)) harr⟩
      | goto l => exact ⟨_, a1, w1, hq, .pass (x := .inLoop c) rfl (fun _ _ => .inl (by simp)) harr⟩
      | ret => exact ⟨_, a1, w1, hq, .pass (x := .inLoop c) rfl (fun _ _ => .inl (by simp)) harr⟩
      | panic ch => exact ⟨_, a1, w1, hq, .pass (x := .inLoop c) rfl (fun _ _ => .inl (by simp)) harr⟩
      | outgrown => exact ⟨_, a1, w1, hq, .pass (x := .inLoop c) rfl (fun _ _ => .inl (by simp)) harr⟩
  obtain ⟨e, a', w', hq, harr⟩ := key n0 a0 w0 h0
  exact ⟨e, a', w', hq, .of_steps (.one step_loop) harr⟩

theorem fixLoop_some {f : OSet → Option ChkR} : ∀ (k : Nat) (O : OSet) (R : ChkR), fixLoop f k O = some R → ∃ O1 r xs, (∀ p ∈ O1, p ∈ O) ∧ f O1 = some (r, xs) ∧ R = (none, xs) ∧ ∀ O2, r = some O2 → ∀ p ∈ O1, p ∈ O2 := by
  intro k
  induction k with
  | zero => intro O R h; cases h
  | succ k ih =>
    intro O R h
    unfold fixLoop at h
    split at h
    · cases h
    · rename_i xs hf
      injection h with h; subst h
      exact ⟨O, none, xs, fun p hp => hp, hf, rfl, by simp⟩
    · rename_i O' xs hf
      split at h
      · rename_i hs
        injection h with h; subst h
        refine ⟨O, some O', xs, fun p hp => hp, hf, rfl, fun O2 h2 p hp => ?_⟩
        injection h2 with h2; subst h2
        unfold subO at hs
        simpa using List.all_eq_true.1 hs p hp
      · obtain ⟨O1, r, xs', h1, h2, h3, h4⟩ := ih _ R h
        exact ⟨O1, r, xs', fun p hp => sub_inter1 p (h1 p hp), h2, h3, h4⟩

theorem lcode_succ {call : CallF} : ∀ (n : Nat) (c : Code) (e : Env) (H : Heap) (y : Ex × Env × Heap), lcode P C call n c e H = some y → lcode P C call (n + 1) c e H = some y := by
  intro n
  induction n with
  | zero => intro c e H y h; cases h
  | succ n ih =>
    intro c e H y h
    cases c with
    | seq a b =>
      simp only [lcode] at h
      rw [lcode]
      split at h
      · rename_i e1 H1 h1
        rw [ih a e H _ h1]
        exact ih b e1 H1 y h
      · rename_i hne
        rw [ih a e H _ h]
        obtain ⟨x, e1, H1⟩ := y
        cases x with
        | normal => exact absurd h (hne e1 H1)
        | exit i => rfl
        | ret => rfl
    | cond c a b =>
      simp only [lcode] at h
      rw [lcode]
      split at h
      · rename_i t ht
        cases t with
        | true => exact ih a e H y (by simpa using h)
        | false => exact ih b e H y (by simpa using h)
      · cases h
    | block id a =>
      simp only [lcode] at h
      rw [lcode]
      split at h
      · rename_i i e1 H1 h1
        rw [ih a e H _ h1]
        exact h
      · rename_i hne
        rw [ih a e H _ h]
        obtain ⟨x, e1, H1⟩ := y
        cases x with
        | normal => rfl
        | exit i => exact absurd h (hne i e1 H1)
        | ret => rfl
    | loop a =>
      simp only [lcode] at h
      rw [lcode]
      split at h
      · rename_i e1 H1 h1
        rw [ih a e H _ h1]
        exact ih (.loop a) e1 H1 y h
      · rename_i hne
        rw [ih a e H _ h]
        obtain ⟨x, e1, H1⟩ := y
        cases x with
        | normal => exact absurd h (hne e1 H1)
        | exit i => rfl
        | ret => rfl
    | skip => exact h
    | region id ops d => cases d <;> exact h
    | exit id => exact h
    | ret => exact h
    | _ => cases h

theorem lmono {call : CallF} {m n : Nat} {c : Code} {e : Env} {H : Heap} {y : Ex × Env × Heap} (hmn : m ≤ n) (h : lcode P C call m c e H = some y) : lcode P C call n c e H = some y := by
  induction hmn with
  | refl => exact h
  | step _ ih => exact lcode_succ _ c e H y ih

theorem lcode_ok {call : CallF} (hK : Known P C call) {ret : OSet → Bool} (hm : P.follows .mixedOrders = true) : ∀ (n : Nat) (c : Code) (R : ChkR) (O : OSet) (e : Env) (H : Heap) (F : Facts) (L : List Nat) (a : Act) (w : World) (x : Ex) (e' : Env) (H' : Heap) (Q : Exit → Act → World → Prop),
    chkCode P C N ret c O = some R → lcode P C call n c e H = some (x, e', H') → Inv P G F0 L0 w0 N O e H F L a w →
    (∀ O' F' L' a' w', Left ret R x O' → Inv P G F0 L0 w0 N O' e' H' F' L' a' w' → Q x.toExit a' w') → c.wp P Q a w := by
  intro n
  induction n with
  | zero => intro c R O e H F L a w x e' H' Q hc h; cases h
  | succ n ih =>
    intro c R O e H F L a w x e' H' Q hc h hI hQ
    cases c with
    | skip =>
      simp only [lcode] at h
      injection h with h; injection h with h1 h2; injection h2 with h2 h3; subst h1 h2 h3
      simp only [chkCode] at hc
      injection hc with hc; subst hc
      exact wp_skip (hQ O F L a w ⟨O, rfl, fun p hp => hp⟩ hI)
    | region id ops d =>
      cases d with
      | false =>
        simp only [lcode] at h
        obtain ⟨⟨e1, H1⟩, h1, h2⟩ := Option.map_eq_some_iff.1 h
        injection h2 with h2 h3; injection h3 with h3 h4; subst h2 h3 h4
        simp only [chkCode] at hc
        obtain ⟨⟨O1, A1⟩, hc1, rfl⟩ := Option.map_eq_some_iff.1 hc
        refine wp_region (lops_ok hK ops.toList (List.range ops.size) O [] e H F L a w e1 H1 O1 A1 (by simp) (fun k i o hk ho => ?_) hI (fun p hp => by simp at hp) h1 hc1 fun F' L' a' w' hI' => hQ O1 F' L' a' w' ⟨O1, rfl, fun p hp => hp⟩ hI')
        have hkl : k < ops.size := by
          have := (List.getElem?_eq_some_iff.1 hk).1
          simpa using this
        rw [List.getElem?_range hkl] at hk
        injection hk with hk
        subst hk
        simpa using ho
      | true =>
        simp only [lcode] at h
        obtain ⟨⟨e1, H1⟩, h1, h2⟩ := Option.map_eq_some_iff.1 h
        injection h2 with h2 h3; injection h3 with h3 h4; subst h2 h3 h4
        simp only [chkCode] at hc
        obtain ⟨O1, hc1, rfl⟩ := Option.map_eq_some_iff.1 hc
        exact draw_ok hK hm hI hc1 h1 fun F' L' a' w' hI' => hQ O1 F' L' a' w' ⟨O1, rfl, fun p hp => hp⟩ hI'
    | seq c1 c2 =>
      simp only [lcode] at h
      simp only [chkCode] at hc
      split at hc
      · rename_i O1 xs hc1
        obtain ⟨R2, hc2, rfl⟩ := Option.map_eq_some_iff.1 hc
        refine wp_seq ?_
        split at h
        · rename_i e1 H1 h1
          refine ih c1 _ O e H F L a w .normal e1 H1 _ hc1 h1 hI fun O' F' L' a' w' hl hI' => ?_
          obtain ⟨O2, he, hs⟩ := hl
          injection he with he; subst he
          exact ih c2 _ O1 e1 H1 F' L' a' w' x e' H' Q hc2 h (hI'.sub hs) fun O' F' L' a' w' hl hI' => hQ O' F' L' a' w' (by
            cases x with
            | normal => exact hl
            | exit id => obtain ⟨O1', h1, h2⟩ := hl; exact ⟨O1', List.mem_append_right _ h1, h2⟩
            | ret => exact hl) hI'
        · rename_i hne
          refine ih c1 _ O e H F L a w x e' H' _ hc1 h hI fun O' F' L' a' w' hl hI' => ?_
          cases x with
          | normal => exact absurd h (hne e' H')
          | exit id =>
            obtain ⟨O1', h1, h2⟩ := hl
            exact hQ O' F' L' a' w' ⟨O1', List.mem_append_left _ h1, h2⟩ hI'
          | ret => exact hQ O' F' L' a' w' hl hI'
      · rename_i hne
        refine wp_seq ?_
        split at h
        · rename_i e1 H1 h1
          refine ih c1 _ O e H F L a w .normal e1 H1 _ hc h1 hI fun O' F' L' a' w' hl hI' => ?_
          obtain ⟨O2, he, hs⟩ := hl
          obtain ⟨R1, R2⟩ := R
          simp only at he
          subst he
          exact absurd hc (hne O2 R2)
        · rename_i hne'
          refine ih c1 _ O e H F L a w x e' H' _ hc h hI fun O' F' L' a' w' hl hI' => ?_
          cases x with
          | normal => exact absurd h (hne' e' H')
          | exit id => exact hQ O' F' L' a' w' hl hI'
          | ret => exact hQ O' F' L' a' w' hl hI'
    | cond cc c1 c2 =>
      simp only [lcode] at h
      simp only [chkCode] at hc
      split at hc
      · rename_i r1 r2 hc1 hc2
        injection hc with hc; subst hc
        split at h
        · rename_i t ht
          have hr := hI.ev cc
          rw [ht] at hr
          obtain ⟨hv, _⟩ := hr.v_eq
          cases t with
          | true =>
            refine wp_cond_true hv.symm (ih c1 _ O e H F L a w x e' H' Q hc1 (by simpa using h) hI fun O' F' L' a' w' hl hI' => hQ O' F' L' a' w' ?_ hI')
            cases x with
            | normal =>
              obtain ⟨O1, h1, h2⟩ := hl
              obtain ⟨O2, h3, h4⟩ := join_left (y := r2.1) h1
              exact ⟨O2, h3, fun p hp => h2 p (h4 p hp)⟩
            | exit id => obtain ⟨O1', h1, h2⟩ := hl; exact ⟨O1', List.mem_append_left _ h1, h2⟩
            | ret => exact hl
          | false =>
            refine wp_cond_false hv.symm (ih c2 _ O e H F L a w x e' H' Q hc2 (by simpa using h) hI fun O' F' L' a' w' hl hI' => hQ O' F' L' a' w' ?_ hI')
            cases x with
            | normal =>
              obtain ⟨O1, h1, h2⟩ := hl
              obtain ⟨O2, h3, h4⟩ := join_right (x := r1.1) h1
              exact ⟨O2, h3, fun p hp => h2 p (h4 p hp)⟩
            | exit id => obtain ⟨O1', h1, h2⟩ := hl; exact ⟨O1', List.mem_append_right _ h1, h2⟩
            | ret => exact hl
        · cases h
      · cases hc
    | block id c1 =>
      simp only [lcode] at h
      simp only [chkCode] at hc
      obtain ⟨R1, hc1, rfl⟩ := Option.map_eq_some_iff.1 hc
      refine wp_block ?_
      split at h
      · rename_i i e1 H1 h1
        refine ih c1 R1 O e H F L a w (.exit i) e1 H1 _ hc1 h1 hI fun O' F' L' a' w' hl hI' => ?_
        obtain ⟨O1, hm, hs⟩ := hl
        show Exit.inBlock id Q (.exit i) a' w'
        simp only [Exit.inBlock]
        by_cases hi : i = id
        · rw [if_pos hi] at h ⊢
          injection h with h; injection h with h1 h2; injection h2 with h2 h3; subst h1 h2 h3
          subst hi
          obtain ⟨O2, h4, h5⟩ := (join_fold ((R1.2.filter (·.1 == i)).map (·.2)) R1.1).2 O1 (List.mem_map.2 ⟨(i, O1), List.mem_filter.2 ⟨hm, by simp⟩, rfl⟩)
          exact hQ O' F' L' a' w' ⟨O2, h4, fun p hp => hs p (h5 p hp)⟩ hI'
        · rw [if_neg hi] at h ⊢
          injection h with h; injection h with h1 h2; injection h2 with h2 h3; subst h1 h2 h3
          exact hQ O' F' L' a' w' ⟨O1, List.mem_filter.2 ⟨hm, by simpa using hi⟩, hs⟩ hI'
      · rename_i hne
        refine ih c1 R1 O e H F L a w x e' H' _ hc1 h hI fun O' F' L' a' w' hl hI' => ?_
        cases x with
        | normal =>
          obtain ⟨O1, h1, h2⟩ := hl
          obtain ⟨O2, h4, h5⟩ := (join_fold ((R1.2.filter (·.1 == id)).map (·.2)) R1.1).1 O1 h1
          exact hQ O' F' L' a' w' ⟨O2, h4, fun p hp => h2 p (h5 p hp)⟩ hI'
        | exit i => exact absurd h (hne i e' H')
        | ret => exact hQ O' F' L' a' w' hl hI'
    | loop c1 =>
      simp only [chkCode] at hc
      obtain ⟨O1, r, xs, h1, h2, rfl, h4⟩ := fixLoop_some 4 O R hc
      have hdown : ∀ m a w, (m ≤ n + 1 ∧ ∃ e H F L, lcode P C call m (.loop c1) e H = some (x, e', H') ∧ Inv P G F0 L0 w0 N O1 e H F L a w) →
          c1.wp P (Exit.then (fun a' w' => ∃ k, k < m ∧ (k ≤ n + 1 ∧ ∃ e H F L, lcode P C call k (.loop c1) e H = some (x, e', H') ∧ Inv P G F0 L0 w0 N O1 e H F L a' w')) Q) a w := by
        rintro m a w ⟨hm, e, H, F, L, hl, hI⟩
        cases m with
        | zero => cases hl
        | succ m =>
          simp only [lcode] at hl
          have lift : ∀ (k : Nat) (y : Ex × Env × Heap), k ≤ n → lcode P C call k c1 e H = some y → ∀ Q', (∀ O' F' L' a' w', Left ret (r, xs) y.1 O' → Inv P G F0 L0 w0 N O' y.2.1 y.2.2 F' L' a' w' → Q' y.1.toExit a' w') → c1.wp P Q' a w := by
            intro k y hk hy Q' hQ'
            exact ih c1 (r, xs) O1 e H F L a w y.1 y.2.1 y.2.2 Q' h2 (lmono hk hy) hI hQ'
          split at hl
          · rename_i e1 H1 hb
            refine lift m _ (by omega) hb _ fun O' F' L' a' w' hle hI' => ?_
            obtain ⟨O2, h5, h6⟩ := hle
            exact ⟨m, by omega, by omega, e1, H1, F', L', hl, hI'.sub fun p hp => h6 p (h4 O2 h5 p hp)⟩
          · rename_i hne
            refine lift m (x, e', H') (by omega) hl _ fun O' F' L' a' w' hle hI' => ?_
            cases x with
            | normal => exact absurd hl (hne e' H')
            | exit i => exact hQ O' F' L' a' w' hle hI'
            | ret => exact hQ O' F' L' a' w' hle hI'
      exact wp_loop_down (J := fun m a w => m ≤ n + 1 ∧ ∃ e H F L, lcode P C call m (.loop c1) e H = some (x, e', H') ∧ Inv P G F0 L0 w0 N O1 e H F L a w) hdown (n + 1) a w ⟨Nat.le_refl _, e, H, F, L, h, hI.sub h1⟩
    | exit id =>
      simp only [lcode] at h
      injection h with h; injection h with h1 h2; injection h2 with h2 h3; subst h1 h2 h3
      simp only [chkCode] at hc
      injection hc with hc; subst hc
      exact wp_exit (hQ O F L a w ⟨O, by simp, fun p hp => hp⟩ hI)
    | ret =>
      simp only [lcode] at h
      injection h with h; injection h with h1 h2; injection h2 with h2 h3; subst h1 h2 h3
      simp only [chkCode] at hc
      split at hc
      · rename_i hr
        exact wp_ret (hQ O F L a w hr hI)
      · cases hc
    | _ => cases h
end
end Go.Lv
