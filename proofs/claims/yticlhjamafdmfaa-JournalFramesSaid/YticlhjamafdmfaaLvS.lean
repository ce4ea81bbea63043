import Derived.Test.YticlhjamafdmfaaLvQ
set_option linter.unusedVariables false
set_option linter.unusedSimpArgs false
namespace Go.Lv
section
variable {P : Program} {C : Cfg} {call : CallF} {all : Array Oper} {G : Nat → Prop} {F0 : Facts} {L0 : List Nat} {w0 : World} {N : Nat} {E : Nat → Env} {Hs : Nat → Heap} {V : Nat → AV}

/-! ### An operation looks at its operands alone -/
theorem ev_congr {e e' : Env} {x : Operand} (h : ∀ t, x = .tmp t → e t = e' t) : ev e x = ev e' x := by
  cases x with
  | tmp t => exact h t rfl
  | _ => rfl

theorem map_ev_congr {e e' : Env} {l : List Operand} (h : ∀ x ∈ l, ev e x = ev e' x) : l.map (ev e) = l.map (ev e') := List.map_congr_left h

theorem opt_ev_congr {e e' : Env} {o : Option Operand} (h : ∀ x ∈ o.toArray, ev e x = ev e' x) : o.map (ev e) = o.map (ev e') := by
  cases o with
  | none => rfl
  | some x => simp; exact h x (by simp)

theorem evX_congr {e e' : Env} {x : Operand} (h : ev e x = ev e' x) : evX e x = evX e' x := by
  cases x with
  | const v => rfl
  | tmp t => exact h
  | global g => exact h
  | func f => exact h
theorem opA_congr {e e' : Env} {H : Heap} {o : Op} (h : ∀ x ∈ o.operands, ev e x = ev e' x) : opA P e H o = opA P e' H o := by
  cases o with
  | call c =>
    obtain ⟨callee, args, ts⟩ := c
    cases callee with
    | builtin b =>
      have : (args.toList.map fun x => owA (ev e x)) = args.toList.map fun x => owA (ev e' x) := List.map_congr_left fun x hx => by rw [h x (by simpa [Op.operands, Call.operands] using hx)]
      by_cases hb : b = .append
      · subst hb
        simp only [opA]
        split
        · rename_i x y t u hargs hts
          have e1 : args = #[x, y] := by obtain ⟨l⟩ := args; simp at hargs; subst hargs; rfl
          subst e1
          rw [h x (by simp [Op.operands, Call.operands]), h y (by simp [Op.operands, Call.operands])]
        · rfl
      · by_cases hd : b = .delete
        · subst hd
          simp only [opA]
          split
          · rename_i x y t u hargs hts
            have e1 : args = #[x, y] := by obtain ⟨l⟩ := args; simp at hargs; subst hargs; rfl
            subst e1
            rw [h x (by simp [Op.operands, Call.operands]), h y (by simp [Op.operands, Call.operands])]
          · rfl
        · cases b <;> first | exact absurd rfl hb | exact absurd rfl hd | simp only [opA, this]
    | _ => rfl
  | build t ps =>
    have : (ps.toList.map fun p => (p.1, evX e p.2)) = (ps.toList.map fun p => (p.1, evX e' p.2)) := List.map_congr_left fun p hp => by
      rw [evX_congr <| h p.2 (by simp only [Op.operands, List.mem_toArray, List.mem_map]; exact ⟨p, hp, rfl⟩)]
    simp only [opA, this]
  | buildSlice t len ps =>
    have : (ps.toList.map fun p => (p.1, ev e p.2)) = (ps.toList.map fun p => (p.1, ev e' p.2)) := List.map_congr_left fun p hp => by
      rw [h p.2 (by simp only [Op.operands, List.mem_toArray, List.mem_map]; exact ⟨p, hp, rfl⟩)]
    simp only [opA, this]
  | makeFunc fn first caps =>
    have : caps.toList.map (ev e) = caps.toList.map (ev e') := map_ev_congr fun x hx => h x (by simp only [Op.operands, Array.mem_append]; exact .inr (by simpa using hx))
    cases fn <;> simp only [opA, this]
  | slice t x lo hi mx =>
    have h1 := h x (by simp [Op.operands])
    have h2 : lo.map (ev e) = lo.map (ev e') := opt_ev_congr fun y hy => h y (by simp [Op.operands] at hy ⊢; exact .inr (.inl hy))
    have h3 : hi.map (ev e) = hi.map (ev e') := opt_ev_congr fun y hy => h y (by simp [Op.operands] at hy ⊢; exact .inr (.inr (.inl hy)))
    have h4 : mx.map (ev e) = mx.map (ev e') := opt_ev_congr fun y hy => h y (by simp [Op.operands] at hy ⊢; exact .inr (.inr (.inr hy)))
    simp only [opA, h1, h2, h3, h4]
  | move x => simp only [opA, h x (by simp [Op.operands])]
  | assign x => simp only [opA, h x (by simp [Op.operands])]
  | pick c a b => simp only [opA, h c (by simp [Op.operands]), h a (by simp [Op.operands]), h b (by simp [Op.operands])]
  | box t x => simp only [opA, evX_congr (h x (by simp [Op.operands]))]
  | load t x => simp only [opA, h x (by simp [Op.operands])]
  | store t x y => simp only [opA, h x (by simp [Op.operands]), evX_congr (h y (by simp [Op.operands]))]
  | nilCheck x => simp only [opA, h x (by simp [Op.operands])]
  | binOp op t x y u => simp only [opA, h x (by simp [Op.operands]), h y (by simp [Op.operands])]
  | unOp op t x => simp only [opA, h x (by simp [Op.operands])]
  | convert s d x => simp only [opA, h x (by simp [Op.operands])]
  | fieldAddr t x f => simp only [opA, h x (by simp [Op.operands])]
  | field t x f => simp only [opA, h x (by simp [Op.operands])]
  | indexAddr t x y => simp only [opA, h x (by simp [Op.operands]), h y (by simp [Op.operands])]
  | index t x y => simp only [opA, h x (by simp [Op.operands]), h y (by simp [Op.operands])]
  | extract x i => simp only [opA, h x (by simp [Op.operands])]
  | makeMap t r => cases r <;> rfl
  | lookup t m k c => simp only [opA, h m (by simp [Op.operands]), h k (by simp [Op.operands])]
  | mapUpdate t m k v => simp only [opA, h m (by simp [Op.operands]), h k (by simp [Op.operands]), h v (by simp [Op.operands])]
  | _ => rfl

theorem stepB_congr {e e' : Env} {H : Heap} {o : Op} (h : ∀ x ∈ o.operands, ev e x = ev e' x) : stepB P C call e H o = stepB P C call e' H o := by
  have hop := opA_congr (P := P) (H := H) h
  unfold stepB
  split
  · rename_i f args ts
    have h1 : ∀ g, (args.toList.map fun x => argA C g (ev e x)) = args.toList.map fun x => argA C g (ev e' x) := fun g => List.map_congr_left fun x hx => by
      rw [h x (by simp only [Op.operands, Call.operands, Array.mem_append]; exact .inr (by simpa using hx))]
    have h2 := h f (by simp [Op.operands, Call.operands])
    simp only [h1, h2]
  · rename_i o hno
    exact hop

theorem muA_congr {e e' : Env} {H : Heap} {o : Op} (h : ∀ x ∈ o.operands, ev e x = ev e' x) : muA P e H o = muA P e' H o := by
  unfold muA
  split
  · rfl
  · rename_i s
    have h1 : e s = e' s := h (.tmp s) (by simp [Op.operands])
    simp only [h1]
  · rename_i args ts
    split
    · rename_i x y t u hargs hts
      have e1 : args = #[x, y] := by obtain ⟨l⟩ := args; simp at hargs; subst hargs; rfl
      subst e1
      rw [h x (by simp [Op.operands, Call.operands]), h y (by simp [Op.operands, Call.operands])]
    · rfl
  · rename_i t l c
    rw [h l (by simp [Op.operands]), h c (by simp [Op.operands])]
  · rfl

theorem tkA_congr {e e' : Env} {H : Heap} {o : Op} (h : ∀ x ∈ o.operands, ev e x = ev e' x) : tkA P e H o = tkA P e' H o := by
  unfold tkA
  split
  · rfl
  · rename_i args ts
    split
    · rename_i x y t u hargs hts
      have e1 : args = #[x, y] := by obtain ⟨l⟩ := args; simp at hargs; subst hargs; rfl
      subst e1
      rw [h x (by simp [Op.operands, Call.operands]), h y (by simp [Op.operands, Call.operands])]
    · rfl
  · rfl

theorem stepA_congr {e e' : Env} {H : Heap} {d : Option Nat} {o : Op} (h : ∀ x ∈ o.operands, ev e x = ev e' x) : stepA P C call d e H o = stepA P C call d e' H o := by
  unfold stepA
  rw [muA_congr h, tkA_congr h, stepB_congr h]

theorem pure_not_eff {o : Op} (h : pureOp o = true) : effOp o = false := by
  unfold pureOp at h
  split at h <;> first | rfl | cases h

theorem stepA_pure {e : Env} {H : Heap} {d : Option Nat} {o : Op} (h : pureOp o = true) : stepA P C call d e H o = stepB P C call e H o := by
  have h1 : muOp o = false := by
    unfold pureOp at h
    split at h <;> first | rfl | cases h
  have h2 : fzOp o = false := by
    unfold pureOp at h
    split at h <;> first | rfl | cases h
  have h3 : tkOp o = false := by
    unfold pureOp at h
    split at h <;> first | rfl | cases h
  unfold stepA Cfg.spec
  rw [h1, h2, h3, if_neg (by simp)]

/-- An operation that neither writes nor reads what may be written. -/
theorem pure_heap {e : Env} {H H1 : Heap} {o : Op} {v : AV} (hp : pureOp o = true) (h : stepB P C call e H o = some (v, H1)) : H1 = H ∧ ((∀ t p, o ≠ .load t p) → ∀ H', stepB P C call e H' o = some (v, H')) ∧ ∀ t p, o = .load t p → loadA P H t (ev e p) = some v := by
  have mk : ∀ {x : Option AV}, (x.map fun a => (a, H)) = some (v, H1) → x = some v ∧ H1 = H := by
    intro x hx
    obtain ⟨a, ha, he⟩ := Option.map_eq_some_iff.1 hx
    injection he with h1 h2
    exact ⟨h1 ▸ ha, h2.symm⟩
  cases o with
  | load t p =>
    simp only [stepB, opA] at h
    obtain ⟨h1, h2⟩ := mk h
    exact ⟨h2, fun hn => absurd rfl (hn t p), fun t' p' he => by injection he with e1 e2; subst e1 e2; exact h1⟩
  | call c =>
    obtain ⟨callee, args, ts⟩ := c
    cases callee with
    | builtin b =>
      cases b <;> first
        | (simp [pureOp] at hp; done)
        | (simp only [stepB, opA] at h
           obtain ⟨h1, h2⟩ := mk h
           exact ⟨h2, fun _ H' => by simp only [stepB, opA, h1, Option.map_some], fun t p he => by cases he⟩)
    | value f => simp [pureOp] at hp
    | invoke r m => simp [pureOp] at hp
  | move x => simp only [stepB, opA] at h; injection h with h; injection h with h1 h2; subst h1; exact ⟨h2.symm, fun _ H' => rfl, fun t p he => by cases he⟩
  | pick c a b =>
    simp only [stepB, opA] at h
    split at h
    · rename_i t hc
      injection h with h; injection h with h1 h2; subst h1
      exact ⟨h2.symm, fun _ H' => by simp only [stepB, opA, hc], fun t p he => by cases he⟩
    · cases h
  | nilCheck x =>
    simp only [stepB, opA] at h
    split at h
    · rename_i j off hc
      injection h with h; injection h with h1 h2; subst h1
      exact ⟨h2.symm, fun _ H' => by simp only [stepB, opA, hc], fun t p he => by cases he⟩
    · cases h
  | makeFunc fn first caps =>
    cases fn with
    | func f =>
      simp only [stepB, opA] at h
      split at h
      · rename_i hf
        injection h with h; injection h with h1 h2; subst h1
        exact ⟨h2.symm, fun _ H' => by simp only [stepB, opA, hf, if_true], fun t p he => by cases he⟩
      · cases h
    | _ => simp [stepB, opA] at h
  | extract x i =>
    simp only [stepB, opA] at h
    split at h
    · rename_i xs hc
      obtain ⟨h1, h2⟩ := mk h
      exact ⟨h2, fun _ H' => by simp only [stepB, opA, hc, h1, Option.map_some], fun t p he => by cases he⟩
    · cases h
  | build t ps => simp only [stepB, opA] at h; obtain ⟨h1, h2⟩ := mk h; exact ⟨h2, fun _ H' => by simp only [stepB, opA, h1, Option.map_some], fun t p he => by cases he⟩
  | buildSlice t len ps => simp only [stepB, opA] at h; obtain ⟨h1, h2⟩ := mk h; exact ⟨h2, fun _ H' => by simp only [stepB, opA, h1, Option.map_some], fun t p he => by cases he⟩
  | binOp op t x y u => simp only [stepB, opA] at h; obtain ⟨h1, h2⟩ := mk h; exact ⟨h2, fun _ H' => by simp only [stepB, opA, h1, Option.map_some], fun t p he => by cases he⟩
  | unOp op t x => simp only [stepB, opA] at h; obtain ⟨h1, h2⟩ := mk h; exact ⟨h2, fun _ H' => by simp only [stepB, opA, h1, Option.map_some], fun t p he => by cases he⟩
  | convert s d x => simp only [stepB, opA] at h; obtain ⟨h1, h2⟩ := mk h; exact ⟨h2, fun _ H' => by simp only [stepB, opA, h1, Option.map_some], fun t p he => by cases he⟩
  | slice t x lo hi mx => simp only [stepB, opA] at h; obtain ⟨h1, h2⟩ := mk h; exact ⟨h2, fun _ H' => by simp only [stepB, opA, h1, Option.map_some], fun t p he => by cases he⟩
  | fieldAddr t x f => simp only [stepB, opA] at h; obtain ⟨h1, h2⟩ := mk h; exact ⟨h2, fun _ H' => by simp only [stepB, opA, h1, Option.map_some], fun t p he => by cases he⟩
  | field t x f => simp only [stepB, opA] at h; obtain ⟨h1, h2⟩ := mk h; exact ⟨h2, fun _ H' => by simp only [stepB, opA, h1, Option.map_some], fun t p he => by cases he⟩
  | indexAddr t x y => simp only [stepB, opA] at h; obtain ⟨h1, h2⟩ := mk h; exact ⟨h2, fun _ H' => by simp only [stepB, opA, h1, Option.map_some], fun t p he => by cases he⟩
  | index t x y => simp only [stepB, opA] at h; obtain ⟨h1, h2⟩ := mk h; exact ⟨h2, fun _ H' => by simp only [stepB, opA, h1, Option.map_some], fun t p he => by cases he⟩
  | _ => simp [pureOp] at hp

/-! ### What the look at a region says -/
theorem hasE_some {i j : Nat} (h : hasE all i j = true) : ∃ o, all[i]? = some o ∧ ∃ e ∈ o.after, Region.binds .any e = true ∧ e.on = j := by
  unfold hasE at h
  cases ho : all[i]? with
  | none => rw [ho] at h; cases h
  | some o =>
    rw [ho] at h
    simp only [Option.map_some, Option.getD_some] at h
    obtain ⟨e, he, hb⟩ := Array.any_eq_true'.1 h
    simp only [Bool.and_eq_true, beq_iff_eq] at hb
    exact ⟨o, rfl, e, he, hb.1, hb.2⟩

structure Drw (all : Array Oper) : Prop where
  cls : ∀ (i : Nat) (o : Oper), all[i]? = some o → (effOp o.op = true ∨ pureOp o.op = true) ∧ ∀ e ∈ o.after, e.on < i
  dist : ∀ (i j : Nat) (o o' : Oper) (t : Nat), all[i]? = some o → all[j]? = some o' → o.dst = some t → o'.dst = some t → i = j
  look : ∀ (i j : Nat) (o o' : Oper) (t : Nat), all[i]? = some o → all[j]? = some o' → t ∈ looksE all o → o'.dst = some t → hasE all i j = true ∨ hasE all j i = true
  chain : ∀ (i j : Nat) (o o' : Oper), all[i]? = some o → all[j]? = some o' → effOp o.op = true → effOp o'.op = true → j < i → ∃ k o'', all[k]? = some o'' ∧ effOp o''.op = true ∧ j ≤ k ∧ k < i ∧ hasE all i k = true

theorem mem_zip {i : Nat} {o : Oper} (h : all[i]? = some o) : (o, i) ∈ all.toList.zipIdx := by
  rw [List.mem_zipIdx_iff_getElem?]
  simpa using h

theorem drwOK_spec (h : drwOK all = true) : Drw all := by
  unfold drwOK at h
  simp only [Bool.and_eq_true, List.all_eq_true, Bool.or_eq_true, decide_eq_true_eq] at h
  obtain ⟨⟨⟨h1, h2⟩, h3⟩, h4⟩ := h
  refine ⟨fun i o ho => ?_, fun i j o o' t ho ho' hd hd' => ?_, fun i j o o' t ho ho' ht hd => ?_, fun i j o o' ho ho' he he' hlt => ?_⟩
  · obtain ⟨a, b⟩ := h1 _ (mem_zip ho)
    refine ⟨a, fun e he => ?_⟩
    have := Array.all_eq_true_iff_forall_mem.1 b e he
    simpa using this
  · unfold List.Nodup at h2
    rw [List.pairwise_filterMap] at h2
    rw [List.pairwise_iff_getElem] at h2
    have hi : i < all.toList.length := by simpa using (Array.getElem?_eq_some_iff.1 ho).1
    have hj : j < all.toList.length := by simpa using (Array.getElem?_eq_some_iff.1 ho').1
    have hio : all.toList[i] = o := by
      have := (Array.getElem?_eq_some_iff.1 ho).2
      simpa using this
    have hjo : all.toList[j] = o' := by
      have := (Array.getElem?_eq_some_iff.1 ho').2
      simpa using this
    rcases Nat.lt_trichotomy i j with h | h | h
    · exact absurd rfl (h2 i j hi hj h t (by rw [hio]; exact hd) t (by rw [hjo]; exact hd'))
    · exact h
    · exact absurd rfl (h2 j i hj hi h t (by rw [hjo]; exact hd') t (by rw [hio]; exact hd))
  · rcases h3 _ (mem_zip ho) t ht _ (mem_zip ho') with (h5 | h5) | h5
    · simp [hd] at h5
    · exact .inl h5
    · exact .inr h5
  · rcases h4 _ (mem_zip ho) with h5 | h5
    · simp [he] at h5
    · rcases h5 _ (mem_zip ho') with (h6 | h6) | h6
      · simp [he'] at h6
      · simp at h6; omega
      · obtain ⟨⟨o'', k⟩, hk, hb⟩ := List.any_eq_true.1 h6
        simp only [Bool.and_eq_true, decide_eq_true_eq] at hb
        have hk' := List.mem_zipIdx_iff_getElem?.1 hk
        exact ⟨k, o'', by simpa using hk', hb.1.1.1, hb.1.1.2, hb.1.2, hb.2⟩
end
end Go.Lv
