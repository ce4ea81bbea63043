import Derived.Test.YticlhjamafdmfaaLvO
set_option linter.unusedVariables false
set_option linter.unusedSimpArgs false
namespace Go.Lv
section
variable {P : Program} {C : Cfg} {call : CallF} {all : Array Oper} {G : Nat → Prop} {F0 : Facts} {L0 : List Nat} {w0 : World} {N : Nat}

/-! ### The run in the text's order, told step by step -/
structure StepT (P : Program) (C : Cfg) (call : CallF) (all : Array Oper) (E : Nat → Env) (Hs : Nat → Heap) (V : Nat → AV) (i : Nat) (o : Oper) : Prop where
  out : (wants all (E i) o = some false ∧ V i = skipA ∧ Hs (i + 1) = Hs i ∧ E (i + 1) = put (E i) o.dst (V i)) ∨
    (wants all (E i) o = some true ∧ stepA P C call o.dst (E i) (Hs i) o.op = some (V i, Hs (i + 1)) ∧ E (i + 1) = put (E i) o.dst (V i))

structure Trace (P : Program) (C : Cfg) (call : CallF) (all : Array Oper) (i : Nat) (os : List Oper) (S : Seen) (E : Nat → Env) (Hs : Nat → Heap) (V : Nat → AV) : Prop where
  step : ∀ (k : Nat) (o : Oper), os[k]? = some o → StepT P C call all E Hs V (i + k) o
  snap : ∀ (k : Nat) (o : Oper) t p, os[k]? = some o → o.op = .load t p → wants all (E (i + k)) o = some true → ∀ s ∈ S.snaps, reachE all 8 (i + k) s.1 = true ∨ loadA P s.2 t (ev (E (i + k)) p) = some (V (i + k))
  load : ∀ (k : Nat) (o : Oper), os[k]? = some o → effOp o.op = true → wants all (E (i + k)) o = some true → ∀ l ∈ S.loads, reachE all 8 (i + k) l.1 = true ∨ loadA P (Hs (i + k + 1)) l.2.1 l.2.2.1 = some l.2.2.2
  early : ∀ (k : Nat) (o : Oper) t p, os[k]? = some o → o.op = .load t p → wants all (E (i + k)) o = some true → ∀ (j : Nat) (o' : Oper), j < k → os[j]? = some o' → effOp o'.op = true → wants all (E (i + j)) o' = some true →
    reachE all 8 (i + k) (i + j) = true ∨ loadA P (Hs (i + j)) t (ev (E (i + k)) p) = some (V (i + k))
  late : ∀ (k : Nat) (o : Oper) t p, os[k]? = some o → o.op = .load t p → wants all (E (i + k)) o = some true → ∀ (j : Nat) (o' : Oper), k < j → os[j]? = some o' → effOp o'.op = true → wants all (E (i + j)) o' = some true →
    reachE all 8 (i + j) (i + k) = true ∨ loadA P (Hs (i + j + 1)) t (ev (E (i + k)) p) = some (V (i + k))

theorem eff_not_load {o : Op} (h : effOp o = true) : ∀ t p, o ≠ .load t p := by
  rintro t p rfl
  cases h

theorem trace_of : ∀ (os : List Oper) (i : Nat) (e : Env) (H : Heap) (S : Seen) (e' : Env) (H' : Heap), lopsD P C call all i os e H S = some (e', H') →
    ∃ E Hs V, E i = e ∧ Hs i = H ∧ E (i + os.length) = e' ∧ Hs (i + os.length) = H' ∧ Trace P C call all i os S E Hs V := by
  intro os
  induction os with
  | nil =>
    intro i e H S e' H' h
    simp only [lopsD] at h
    injection h with h; injection h with h1 h2; subst h1 h2
    exact ⟨fun _ => e, fun _ => H, fun _ => skipA, rfl, rfl, rfl, rfl, ⟨by simp, by simp, by simp, by simp, by simp⟩⟩
  | cons o os ih =>
    intro i e H S e' H' h
    simp only [lopsD] at h
    have glue : ∀ (v : AV) (H1 : Heap) (S1 : Seen), lopsD P C call all (i + 1) os (put e o.dst v) H1 S1 = some (e', H') →
        ((wants all e o = some false ∧ v = skipA ∧ H1 = H) ∨ (wants all e o = some true ∧ stepA P C call o.dst e H o.op = some (v, H1))) →
        (∀ s ∈ S.snaps, s ∈ S1.snaps) → (∀ l ∈ S.loads, l ∈ S1.loads) →
        (wants all e o = some true → effOp o.op = true → (i, H) ∈ S1.snaps ∧ ∀ l ∈ S.loads, reachE all 8 i l.1 = true ∨ loadA P H1 l.2.1 l.2.2.1 = some l.2.2.2) →
        (wants all e o = some true → ∀ t p, o.op = .load t p → (i, t, ev e p, v) ∈ S1.loads ∧ ∀ s ∈ S.snaps, reachE all 8 i s.1 = true ∨ loadA P s.2 t (ev e p) = some v) →
        ∃ E Hs V, E i = e ∧ Hs i = H ∧ E (i + (o :: os).length) = e' ∧ Hs (i + (o :: os).length) = H' ∧ Trace P C call all i (o :: os) S E Hs V := by
      intro v H1 S1 h hst hs1 hl1 heff hload
      obtain ⟨E', Hs', V', e1, e2, e3, e4, T⟩ := ih (i + 1) _ H1 S1 e' H' h
      obtain ⟨E, hE⟩ : ∃ E : Nat → Env, E = fun j => if j = i then e else E' j := ⟨_, rfl⟩
      obtain ⟨Hs, hHs⟩ : ∃ Hs : Nat → Heap, Hs = fun j => if j = i then H else Hs' j := ⟨_, rfl⟩
      obtain ⟨V, hV⟩ : ∃ V : Nat → AV, V = fun j => if j = i then v else V' j := ⟨_, rfl⟩
      have Ei : E i = e := by simp [hE]
      have Hi : Hs i = H := by simp [hHs]
      have Vi : V i = v := by simp [hV]
      have Es : ∀ k, E (i + (k + 1)) = E' (i + 1 + k) := fun k => by simp [hE]; congr 1; omega
      have Hss : ∀ k, Hs (i + (k + 1)) = Hs' (i + 1 + k) := fun k => by simp [hHs]; congr 1; omega
      have Vs : ∀ k, V (i + (k + 1)) = V' (i + 1 + k) := fun k => by simp [hV]; congr 1; omega
      have E1 : E (i + 1) = put e o.dst v := by rw [← e1]; exact Es 0
      have H1' : Hs (i + 1) = H1 := by rw [← e2]; exact Hss 0
      refine ⟨E, Hs, V, Ei, Hi, ?_, ?_, ⟨fun k o' hk => ?_, fun k o' t p hk hop hw s hs => ?_, fun k o' hk hef hw l hl => ?_, fun k o' t p hk hop hw j o'' hj hoj hef hwj => ?_, fun k o' t p hk hop hw j o'' hj hoj hef hwj => ?_⟩⟩
      · rw [List.length_cons, Es, e3]
      · rw [List.length_cons, Hss, e4]
      · cases k with
        | zero =>
          simp at hk
          subst hk
          refine ⟨?_⟩
          rw [Nat.add_zero, Ei, Vi, Hi, H1', E1]
          rcases hst with ⟨h1, h2, h3⟩ | ⟨h1, h2⟩
          · exact .inl ⟨h1, h2, h3, rfl⟩
          · exact .inr ⟨h1, h2, rfl⟩
        | succ k =>
          have := (T.step k o' (by simpa using hk)).out
          refine ⟨?_⟩
          rw [Es, Vs, Hss, show i + (k + 1) + 1 = i + (k + 1 + 1) by omega, Hss, Es]
          exact this
      · cases k with
        | zero =>
          simp at hk
          subst hk
          rw [Nat.add_zero, Ei] at hw ⊢
          rw [Vi]
          exact (hload hw t p hop).2 s hs
        | succ k =>
          rw [Es] at hw
          have := T.snap k o' t p (by simpa using hk) hop hw s (hs1 s hs)
          rw [Es, Vs, show i + (k + 1) = i + 1 + k by omega]
          exact this
      · cases k with
        | zero =>
          simp at hk
          subst hk
          rw [Nat.add_zero, Ei] at hw
          rw [Nat.add_zero, H1']
          exact (heff hw hef).2 l hl
        | succ k =>
          rw [Es] at hw
          have := T.load k o' (by simpa using hk) hef hw l (hl1 l hl)
          rw [show i + (k + 1) + 1 = i + (k + 1 + 1) by omega, Hss, show i + (k + 1) = i + 1 + k by omega]
          exact this
      · cases k with
        | zero => omega
        | succ k =>
          rw [Es] at hw
          cases j with
          | zero =>
            simp at hoj
            subst hoj
            rw [Nat.add_zero, Ei] at hwj
            have := T.snap k o' t p (by simpa using hk) hop hw _ (heff hwj hef).1
            simp only [Nat.add_zero]
            rw [Es, Vs, Hi, show i + (k + 1) = i + 1 + k by omega]
            exact this
          | succ j =>
            rw [Es] at hwj
            have := T.early k o' t p (by simpa using hk) hop hw j o'' (by omega) (by simpa using hoj) hef hwj
            rw [Es, Vs, Hss, show i + (k + 1) = i + 1 + k by omega, show i + (j + 1) = i + 1 + j by omega]
            exact this
      · cases j with
        | zero => omega
        | succ j =>
          rw [Es] at hwj
          cases k with
          | zero =>
            simp at hk
            subst hk
            rw [Nat.add_zero, Ei] at hw
            have := T.load j o'' (by simpa using hoj) hef hwj _ (hload hw t p hop).1
            simp only [Nat.add_zero]
            rw [Ei, Vi, show i + (j + 1) + 1 = i + (j + 1 + 1) by omega, Hss, show i + (j + 1) = i + 1 + j by omega]
            exact this
          | succ k =>
            rw [Es] at hw
            have := T.late k o' t p (by simpa using hk) hop hw j o'' (by omega) (by simpa using hoj) hef hwj
            rw [Es, Vs, show i + (j + 1) + 1 = i + (j + 1 + 1) by omega, Hss, show i + (k + 1) = i + 1 + k by omega, show i + (j + 1) = i + 1 + j by omega]
            exact this
    split at h
    · cases h
    · rename_i hw
      exact glue skipA H S h (.inl ⟨hw, rfl, rfl⟩) (fun s h => h) (fun l h => h) (fun h => by rw [hw] at h; cases h) (fun h => by rw [hw] at h; cases h)
    · rename_i hw
      obtain ⟨⟨v, H1⟩, h1, h⟩ := Option.bind_eq_some_iff.1 h
      obtain ⟨S1, hS, h⟩ := Option.bind_eq_some_iff.1 h
      unfold seenOK at hS
      split at hS
      · rename_i t p hop
        split at hS
        · rename_i hc
          injection hS with hS; subst hS
          exact glue v H1 _ h (.inr ⟨hw, h1⟩) (fun s h => h) (fun l h => List.mem_cons_of_mem _ h) (fun _ he => absurd hop (eff_not_load he t p)) (fun _ t' p' he => by
            rw [hop] at he
            injection he with e1 e2
            subst e1 e2
            exact ⟨List.mem_cons_self, hc⟩)
        · cases hS
      · rename_i hno
        split at hS
        · rename_i he
          split at hS
          · rename_i hc
            injection hS with hS; subst hS
            exact glue v H1 _ h (.inr ⟨hw, h1⟩) (fun s h => List.mem_cons_of_mem _ h) (fun l h => h) (fun _ _ => ⟨List.mem_cons_self, hc⟩) (fun _ t p hop => absurd hop (hno t p))
          · cases hS
        · rename_i he
          injection hS with hS; subst hS
          exact glue v H1 _ h (.inr ⟨hw, h1⟩) (fun s h => h) (fun l h => h) (fun _ h => absurd h he) (fun _ t p hop => absurd hop (hno t p))
end
end Go.Lv
