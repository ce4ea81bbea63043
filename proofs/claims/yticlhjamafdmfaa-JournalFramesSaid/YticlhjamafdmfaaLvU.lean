import Derived.Test.YticlhjamafdmfaaLvT
set_option linter.unusedVariables false
set_option linter.unusedSimpArgs false
namespace Go.Lv
section
variable {P : Program} {C : Cfg} {call : CallF} {all : Array Oper} {G : Nat → Prop} {F0 : Facts} {L0 : List Nat} {w0 : World} {N : Nat} {E : Nat → Env} {Hs : Nat → Heap} {V : Nat → AV}

theorem chkEffs_at : ∀ (os : List Oper) (i : Nat) (O O' : OSet), chkEffs P C N all i os O = some O' → ∃ Oat : Nat → OSet, Oat i = O ∧ Oat (i + os.length) = O' ∧
    ∀ (k : Nat) (o : Oper), os[k]? = some o → (∀ d, o.dst = some d → d < N) ∧ (effOp o.op = true → ∃ A', chkOp P C N o (Oat (i + k)) (aliasE all (i + k)) = some (Oat (i + k + 1), A')) ∧ (effOp o.op = false → Oat (i + k + 1) = Oat (i + k)) := by
  intro os
  induction os with
  | nil => intro i O O' h; simp only [chkEffs] at h; injection h with h; subst h; exact ⟨fun _ => O, rfl, rfl, by simp⟩
  | cons o os ih =>
    intro i O O' h
    simp only [chkEffs] at h
    have glue : ∀ O1, chkEffs P C N all (i + 1) os O1 = some O' → ((∀ d, o.dst = some d → d < N) ∧ (effOp o.op = true → ∃ A', chkOp P C N o O (aliasE all i) = some (O1, A')) ∧ (effOp o.op = false → O1 = O)) →
        ∃ Oat : Nat → OSet, Oat i = O ∧ Oat (i + (o :: os).length) = O' ∧
        ∀ (k : Nat) (o' : Oper), (o :: os)[k]? = some o' → (∀ d, o'.dst = some d → d < N) ∧ (effOp o'.op = true → ∃ A', chkOp P C N o' (Oat (i + k)) (aliasE all (i + k)) = some (Oat (i + k + 1), A')) ∧ (effOp o'.op = false → Oat (i + k + 1) = Oat (i + k)) := by
      intro O1 h1 h2
      obtain ⟨Oat', e1, e2, e3⟩ := ih (i + 1) O1 O' h1
      refine ⟨fun j => if j = i then O else Oat' j, by simp, ?_, fun k o' hk => ?_⟩
      · rw [List.length_cons]
        dsimp only
        rw [if_neg (by omega), show i + (os.length + 1) = i + 1 + os.length by omega, e2]
      · cases k with
        | zero =>
          simp at hk
          subst hk
          simp only [Nat.add_zero, if_true]
          rw [if_neg (by omega), e1]
          exact h2
        | succ k =>
          have := e3 k o' (by simpa using hk)
          rw [show i + (k + 1) + 1 = i + 1 + k + 1 by omega, show i + (k + 1) = i + 1 + k by omega]
          dsimp only
          rw [if_neg (by omega), if_neg (by omega)]
          exact this
    split at h
    · rename_i he
      obtain ⟨⟨O1, A1⟩, h1, h2⟩ := Option.bind_eq_some_iff.1 h
      exact glue O1 h2 ⟨(dst_lt h1).1, fun _ => ⟨A1, h1⟩, fun hf => by rw [he] at hf; cases hf⟩
    · rename_i he
      split at h
      · rename_i hd
        refine glue O h ⟨fun d hdd => ?_, fun hf => absurd hf he, fun _ => rfl⟩
        rw [hdd] at hd
        simpa [dstLt] using hd
      · cases h

structure Own0 (P : Program) (C : Cfg) (N : Nat) (all : Array Oper) (Oat : Nat → OSet) : Prop where
  dst : ∀ (i : Nat) (o : Oper), all[i]? = some o → ∀ d, o.dst = some d → d < N
  eff : ∀ (i : Nat) (o : Oper), all[i]? = some o → effOp o.op = true → ∃ A', chkOp P C N o (Oat i) (aliasE all i) = some (Oat (i + 1), A')
  non : ∀ (i : Nat) (o : Oper), all[i]? = some o → effOp o.op = false → Oat (i + 1) = Oat i
  base : ∀ p ∈ Oat 0, ∀ (j : Nat) (o : Oper), all[j]? = some o → effOp o.op = false → o.dst ≠ some p.1

theorem Own0.nod {Oat : Nat → OSet} (h : Own0 P C N all Oat) (hD : Drw all) : ∀ i, i ≤ all.size → ∀ p ∈ Oat i, ∀ (j : Nat) (o : Oper), all[j]? = some o → effOp o.op = false → o.dst ≠ some p.1 := by
  intro i
  induction i with
  | zero => intro _; exact h.base
  | succ i ih =>
    intro hi p hp j o hj he hd
    have hio : all[i]? = some all[i] := by simp
    cases hf : effOp all[i].op with
    | false =>
      rw [h.non i _ hio hf] at hp
      exact ih (by omega) p hp j o hj he hd
    | true =>
      obtain ⟨A', hA⟩ := h.eff i _ hio hf
      obtain ⟨new, O1, h1, h2, h3, _⟩ := chkOp_shape (dst_lt hA).2
      rw [h1] at hp
      rcases List.mem_append.1 hp with hp | hp
      · have := hD.dist i j _ o p.1 hio hj (h3 p hp) hd
        subst this
        rw [hio] at hj
        injection hj with hj
        rw [hj, he] at hf
        cases hf
      · exact ih (by omega) p (h2 p (mem_killO hp).1) j o hj he hd

theorem Own0.same {Oat : Nat → OSet} (h : Own0 P C N all Oat) {a : Nat} : ∀ b, a ≤ b → b ≤ all.size → (∀ (j : Nat) (o : Oper), a ≤ j → j < b → all[j]? = some o → effOp o.op = false) → Oat b = Oat a := by
  intro b
  induction b with
  | zero => intro hh _ _; have : a = 0 := by omega
            subst this; rfl
  | succ b ih =>
    intro hh hb hall
    rcases Nat.lt_or_ge b a with h1 | h1
    · have : a = b + 1 := by omega
      subst this; rfl
    · have hbo : all[b]? = some all[b] := by simp
      rw [h.non b _ hbo (hall b _ h1 (by omega) hbo)]
      exact ih h1 (by omega) (fun j o h2 h3 => hall j o h2 (by omega))

/-- In the midst of a region: D has come up, and of the effects those below p. -/
structure InvD (P : Program) (G : Nat → Prop) (F0 : Facts) (L0 : List Nat) (w0 : World) (N : Nat) (all : Array Oper) (E : Nat → Env) (Hs : Nat → Heap) (V : Nat → AV) (Oat : Nat → OSet) (D : Nat → Prop) (p : Nat) (F : Facts) (L : List Nat) (a : Act) (w : World) : Prop where
  env : ∃ e, EnvD all E V D e ∧ Inv P G F0 L0 w0 N (Oat p) e (Hs p) F L a w
  ple : p ≤ all.size
  thr : ∀ (j : Nat) (o : Oper), all[j]? = some o → effOp o.op = true → (D j ↔ j < p)
  closed : Closed all D
  alias_ : ∀ (i : Nat) (o : Oper) s d, all[i]? = some o → D i → o.op = .move (.tmp s) → o.dst = some d → o.guard = none → (∀ (j : Nat) (o' : Oper), all[j]? = some o' → D j → o'.dst ≠ some s) → a.tmps.getD d undef = a.tmps.getD s undef

theorem move_wanted {e : Env} {o : Oper} (h : o.guard = none) : wants all e o = some true := by
  unfold wants
  rw [h]

theorem InvD.step {call : CallF} (hK : Known P C call) {Oat : Nat → OSet} {D : Nat → Prop} {p : Nat} {F : Facts} {L : List Nat} {a : Act} {w : World} (h : InvD P G F0 L0 w0 N all E Hs V Oat D p F L a w) (T : Tr P C call all E Hs V) (hD : Drw all) (hO : Own0 P C N all Oat)
    {i : Nat} {o : Oper} (hi : all[i]? = some o) (hr : ∀ x, hasE all i x = true → D x) (hn : ¬ D i) {K : Act → World → Prop} {Q : Exit → Act → World → Prop}
    (hK2 : ∀ F' L' a' w' p', InvD P G F0 L0 w0 N all E Hs V Oat (fun j => D j ∨ j = i) p' F' L' a' w' → K a' w') : wpOp P all Q i K a w := by
  obtain ⟨e, hE, hI⟩ := h.env
  have hil : i < all.size := (Array.getElem?_eq_some_iff.1 hi).1
  have hlook : ∀ t ∈ looksE all o, e t = E i t := fun t ht => hE.look T hD h.closed hi hr hn ht
  have hw : wants all e o = wants all (E i) o := wants_congr hlook
  have hst : ∀ H, stepA P C call o.dst e H o.op = stepA P C call o.dst (E i) H o.op := fun H => stepA_congr fun x hx => ev_congr fun t ht => hlook t (looks_op hx ht)
  have hdst := hO.dst i o hi
  have hdst' : ∀ d', o.dst = some d' → d' < a.tmps.size := fun d' he => Nat.lt_of_lt_of_le (hdst d' he) hI.size
  have hE' := hE.step hD hi
  have hclosed : Closed all (fun j => D j ∨ j = i) := by
    intro j hj x hx
    rcases hj with hj | rfl
    · exact .inl (h.closed j hj x hx)
    · exact .inl (hr x hx)
  -- copies stay copies
  have halias : ∀ (u : Value), (∀ s d, o.op = .move (.tmp s) → o.dst = some d → o.guard = none → u = a.tmps.getD s undef) →
      ∀ (k : Nat) (ok : Oper) s d, all[k]? = some ok → (D k ∨ k = i) → ok.op = .move (.tmp s) → ok.dst = some d → ok.guard = none → (∀ (j : Nat) (o' : Oper), all[j]? = some o' → (D j ∨ j = i) → o'.dst ≠ some s) → (a.put o.dst u).tmps.getD d undef = (a.put o.dst u).tmps.getD s undef := by
    intro u hu k ok s d hk hDk hop hd hg hno
    rw [getD_put a _ _ _ hdst', getD_put a _ _ _ hdst', if_neg (hno i o hi (.inr rfl))]
    rcases hDk with hDk | rfl
    · have hne : o.dst ≠ some d := fun he => hn (hD.dist k i ok o d hk hi hd he ▸ hDk)
      rw [if_neg hne]
      exact h.alias_ k ok s d hk hDk hop hd hg (fun j o' hj hDj => hno j o' hj (.inl hDj))
    · rw [hi] at hk
      injection hk with hk
      subst hk
      rw [if_pos hd]
      exact hu s d hop hd hg
  unfold wpOp
  rw [hi]
  simp only
  cases heff : effOp o.op with
  | false =>
    have hthr : ∀ (j : Nat) (oj : Oper), all[j]? = some oj → effOp oj.op = true → ((D j ∨ j = i) ↔ j < p) := by
      intro j oj hj hej
      have hne : j ≠ i := by
        rintro rfl
        rw [hi] at hj
        injection hj with hj
        rw [← hj, heff] at hej
        cases hej
      rw [← h.thr j oj hj hej]
      exact ⟨fun hh => hh.resolve_right hne, .inl⟩
    have hkill : killO o.dst (Oat p) = Oat p := by
      cases hd : o.dst with
      | none => rfl
      | some d =>
        refine List.filter_eq_self.2 fun q hq => ?_
        have := hO.nod hD p h.ple q hq i o hi heff
        rw [hd] at this
        simpa using fun he : q.1 = d => this (by rw [he])
    have hpu : pureOp o.op = true := (hD.cls i o hi).1.resolve_left (by rw [heff]; simp)
    rcases (T.at_ hi).out with ⟨h1, h2, h3, h4⟩ | ⟨h1, h2, h3⟩
    · rw [← hw] at h1
      rw [wants_ok hI h1]
      have hg : o.guard ≠ none := fun hg => by rw [move_wanted hg] at h1; cases h1
      refine hK2 F L _ w p ⟨⟨_, hE', ?_⟩, h.ple, hthr, hclosed, halias undef fun s d _ _ hg' => absurd hg' hg⟩
      have := hI.step (G1 := fun _ => False) (d := o.dst) (r := skipA) (u := undef) (O1 := Oat p) (new := []) hdst hI.st (Goes.refl _ F L w) skip_rel (fun _ _ h => h.elim) (fun p hp => hp) (fun _ _ _ _ h => h) (by simp) (by simp) (by simp)
      rw [hkill, List.nil_append] at this
      rw [h2]
      exact this
    · rw [← hw] at h1
      rw [wants_ok hI h1]
      simp only [if_true]
      have hst' : ∀ H, stepB P C call e H o.op = stepB P C call (E i) H o.op := fun H => stepB_congr fun x hx => ev_congr fun t ht => hlook t (looks_op hx ht)
      have h2 : stepB P C call (E i) (Hs i) o.op = some (V i, Hs (i + 1)) := by
        rwa [stepA_pure hpu] at h2
      have hval : stepB P C call e (Hs p) o.op = some (V i, Hs p) := by
        rw [hst']
        obtain ⟨q1, q2, q3⟩ := pure_heap hpu h2
        by_cases hl : ∃ t x, o.op = .load t x
        · obtain ⟨t, x, hop⟩ := hl
          have := load_any T hD h.closed h.ple h.thr hi hr hn hop (by rw [← hw]; exact h1)
          rw [hop]
          simp only [stepB, opA, this, Option.map_some]
        · exact q2 (fun t x hop => hl ⟨t, x, hop⟩) (Hs p)
      have happ : isAppend o.op = false := by
        unfold isAppend
        split
        · rename_i args ts hop
          rw [hop] at hpu
          cases hpu
        · rfl
      have hop : opA P e (Hs p) o.op = some (V i, Hs p) := by
        unfold stepB at hval
        split at hval
        · rename_i f args ts hop
          rw [hop] at hpu
          cases hpu
        · exact hval
      refine .inl ?_
      obtain ⟨F', L', w', u, hdone, _⟩ := opA_run hI.st (o := o) (ρ := a.eval) (fun x => hI.ev x) (fun _ => rfl) hop happ
      have hu : ∀ s d, o.op = .move (.tmp s) → o.dst = some d → o.guard = none → u = a.tmps.getD s undef := by
        intro s d hm _ _
        have hrun : (execOp a.eval o).run P w = .ok (.value (a.tmps.getD s undef)) w := by unfold execOp; rw [hm]; simp [Act.eval]
        exact (done_val hdone hrun).1
      have hfin : K (a.put o.dst u) w' := by
        refine hK2 F' L' _ w' p ⟨⟨_, hE', ?_⟩, h.ple, hthr, hclosed, halias u hu⟩
        have := hI.step (G1 := fun _ => False) (d := o.dst) (r := V i) (u := u) (O1 := Oat p) (new := []) hdst hdone.st hdone.goes hdone.rel (fun _ _ h => h.elim) (fun p hp => hp) (fun _ _ _ _ h => h) (by simp) (by simp) (by simp)
        rw [hkill, List.nil_append] at this
        exact this
      unfold Oper.wp
      rcases hdone.run with hr | ⟨hr, rfl⟩
      · rw [hr]; exact hfin
      · rw [hr]; exact hfin
  | true =>
    have hpi : p ≤ i := by
      rcases Nat.lt_or_ge i p with h1 | h1
      · exact absurd ((h.thr i o hi heff).2 h1) hn
      · exact h1
    have hbelow : ∀ (j : Nat) (oj : Oper), all[j]? = some oj → effOp oj.op = true → j < i → D j := chain_closed hD h.closed i o hi heff hr
    have hnoeff : ∀ (j : Nat) (oj : Oper), p ≤ j → j < i → all[j]? = some oj → effOp oj.op = false := by
      intro j oj hpj hji hj
      cases hej : effOp oj.op with
      | false => rfl
      | true =>
        have := (h.thr j oj hj hej).1 (hbelow j oj hj hej hji)
        omega
    have hHs : Hs i = Hs p := T.same hD i hpi (by omega) hnoeff
    have hOs : Oat i = Oat p := hO.same i hpi (by omega) hnoeff
    have hthr : ∀ (j : Nat) (oj : Oper), all[j]? = some oj → effOp oj.op = true → ((D j ∨ j = i) ↔ j < i + 1) := by
      intro j oj hj hej
      refine ⟨fun hh => ?_, fun hh => ?_⟩
      · rcases hh with hh | hh
        · have := (h.thr j oj hj hej).1 hh
          omega
        · omega
      · rcases Nat.lt_or_ge j i with h1 | h1
        · exact .inl (hbelow j oj hj hej h1)
        · exact .inr (by omega)
    have hnomove : ∀ s, o.op ≠ .move (.tmp s) := fun s hm => by rw [hm] at heff; cases heff
    have hA : AliasOK (aliasE all i) a := by
      intro q hq
      unfold aliasE at hq
      obtain ⟨⟨ok, k⟩, hk, hq⟩ := List.mem_filterMap.1 hq
      have hk' : all[k]? = some ok := by simpa using List.mem_zipIdx_iff_getElem?.1 hk
      simp only at hq
      split at hq
      · rename_i s d hm hd hg
        split at hq
        · rename_i hc
          injection hq with hq
          subst hq
          refine h.alias_ k ok s d hk' (hr k hc.1) hm hd hg (fun j o' hj hDj hds => ?_)
          have := List.all_eq_true.1 hc.2 _ (mem_zip hj)
          simp only [Bool.or_eq_true, Bool.and_eq_true, decide_eq_true_eq] at this
          rcases this with h1 | ⟨h1, h2⟩
          · simp [hds] at h1
          · have := (h.thr j o' hj h1).1 hDj
            omega
        · cases hq
      · cases hq
    obtain ⟨A', hchk⟩ := hO.eff i o hi heff
    rw [hOs] at hchk
    have hfin : ∀ F' L' a' w', Inv P G F0 L0 w0 N (Oat (i + 1)) (put e o.dst (V i)) (Hs (i + 1)) F' L' a' w' → (∃ u, a' = a.put o.dst u) → K a' w' := by
      rintro F' L' a' w' hI' ⟨u, rfl⟩
      exact hK2 F' L' _ w' (i + 1) ⟨⟨_, hE', hI'⟩, hil, hthr, hclosed, halias u fun s d hm _ _ => absurd hm (hnomove s)⟩
    rcases (T.at_ hi).out with ⟨h1, h2, h3, h4⟩ | ⟨h1, h2, h3⟩
    · rw [← hw] at h1
      rw [wants_ok hI h1]
      have hg : o.guard ≠ none := fun hg => by rw [move_wanted hg] at h1; cases h1
      obtain ⟨hI', _⟩ := skip_ok hI hA hchk hg
      refine hfin F L _ w ?_ ⟨undef, rfl⟩
      rw [h2, h3, hHs]
      exact hI'
    · rw [← hw] at h1
      rw [wants_ok hI h1]
      simp only [if_true]
      refine .inl ?_
      rw [← hst, hHs] at h2
      exact op_ok hK hI hA h2 hchk fun F' L' u w' hI' _ => hfin F' L' _ w' hI' ⟨u, rfl⟩
end
end Go.Lv
