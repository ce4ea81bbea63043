import Derived.Test.YticlhjamafdmfaaLvTk
set_option linter.unusedVariables false
set_option linter.unusedSimpArgs false
namespace Go.Lv
section
variable {P : Program} {C : Cfg} {G : Nat → Prop} {F0 : Facts} {L0 : List Nat} {w0 : World} {N : Nat} {O O' : OSet} {A A' : List (Nat × Nat)} {e : Env} {H : Heap} {F : Facts} {L : List Nat} {a : Act} {w : World}

theorem find_place {s c : Nat} {p : Nat × Nat × Nat} (h : O.find? (fun p => p.1 == s && p.2.1 == c) = some p) : p ∈ O ∧ p.1 = s ∧ p.2.1 = c := by
  have h1 := List.find?_some h
  simp at h1
  exact ⟨List.mem_of_find?_eq_some h, h1.1, h1.2⟩

theorem ownerOf_spec {s c : Nat} {p : Nat × Nat × Nat} (h : ownerOf O A s c = some p) : p ∈ O ∧ p.2.1 = c ∧ (p.1 = s ∨ (s, p.1) ∈ A) := by
  unfold ownerOf at h
  split at h
  · rename_i q hq
    injection h with h; subst h
    obtain ⟨f1, f2, f3⟩ := find_place hq
    exact ⟨f1, f3, .inl f2⟩
  · obtain ⟨q, hq, h⟩ := Option.bind_eq_some_iff.1 h
    obtain ⟨f1, f2, f3⟩ := find_place h
    have h1 := List.find?_some hq
    simp at h1
    refine ⟨f1, f3, .inr ?_⟩
    have := List.mem_of_find?_eq_some hq
    obtain ⟨q1, q2⟩ := q
    simp only at h1 f2
    rw [f2, ← h1]; exact this
theorem opB_ok {call : CallF} (hK : Known P C call) (hI : Inv P G F0 L0 w0 N O e H F L a w) (hA : AliasOK A a) {o : Oper} {r : AV} {H' : Heap} (h : stepB P C call e H o.op = some (r, H')) (hmu : ¬ C.spec o.dst o.op = true) (hc : chkOp P C N o O A = some (O', A'))
    {next : Act → World → Prop} {Q : Exit → Act → World → Prop}
    (hn : ∀ F' L' u w', Inv P G F0 L0 w0 N O' (put e o.dst r) H' F' L' (a.put o.dst u) w' → AliasOK A' (a.put o.dst u) → next (a.put o.dst u) w') : o.wp P a w next Q := by
  obtain ⟨hd, hc⟩ := dst_lt hc
  have hlt : ∀ d', o.dst = some d' → d' < a.tmps.size := fun d' he => Nat.lt_of_lt_of_le (hd d' he) hI.size
  have keep : ∀ {p : OSet × List (Nat × Nat)}, some p = some (O', A') → p = (killO o.dst O, killA o.dst A) → isAppend o.op = false → opA P e H o.op = some (r, H') → o.wp P a w next Q := by
    intro p hp he ha ho
    injection hp with hp
    rw [he] at hp
    injection hp with h1 h2
    subst h1 h2
    exact keepO hI hA ho ha hd hn
  unfold chkOp1 at hc
  dsimp only at hc
  rw [if_neg hmu] at hc
  split at hc
  · -- a constant is read
    rename_i v hop
    have ho : opA P e H o.op = some (r, H') := by rw [hop] at h ⊢; exact h
    have ha : isAppend o.op = false := by rw [hop]; rfl
    have hrun : (execOp a.eval o).run P w = .ok (.value v) w := by unfold execOp; rw [hop]; simp [Act.eval]
    split at hc
    · rename_i hv
      split at hc
      · rename_i n hsz
        injection hc with hc; injection hc with h1 h2; subst h1 h2
        exact nil_ok hI hA ho ha hd hv hrun n hn
      · exact keep hc rfl ha ho
    · exact keep hc rfl ha ho
  · rename_i v hop
    have ho : opA P e H o.op = some (r, H') := by rw [hop] at h ⊢; exact h
    have ha : isAppend o.op = false := by rw [hop]; rfl
    have hrun : (execOp a.eval o).run P w = .ok (.value v) w := by unfold execOp; rw [hop]; simp [Act.eval]
    split at hc
    · rename_i hv
      split at hc
      · rename_i n hsz
        injection hc with hc; injection hc with h1 h2; subst h1 h2
        exact nil_ok hI hA ho ha hd hv hrun n hn
      · exact keep hc rfl ha ho
    · exact keep hc rfl ha ho
  · -- a variable is read
    rename_i s hop
    have ho : opA P e H o.op = some (r, H') := by rw [hop] at h ⊢; exact h
    have ha : isAppend o.op = false := by rw [hop]; rfl
    have hrun : (execOp a.eval o).run P w = .ok (.value (a.tmps.getD s undef)) w := by unfold execOp; rw [hop]; simp [Act.eval]
    split at hc
    · rename_i d' hdst hg
      split at hc
      · exact keep hc rfl ha ho
      · rename_i hne
        injection hc with hc; injection hc with h1 h2; subst h1 h2
        refine quiet_ok (A' := (d', s) :: killA o.dst A) hI hA ho ha hd (O1 := O) (new := []) (fun p hp => hp) (fun F' L' w' u hdone _ => ⟨fun p hp => by simp at hp, fun p hp => by simp at hp, ?_⟩) hn
        obtain ⟨rfl, rfl⟩ := done_val hdone hrun
        intro p hp
        rcases List.mem_cons.1 hp with rfl | hp
        · have hsd : d' ≠ s := fun he => hne (by simp [he])
          rw [getD_put a _ _ _ hlt, getD_put a _ _ _ hlt, hdst, if_pos rfl, if_neg (by simpa using hsd)]
        · exact (hA.kill hlt _) p hp
    · exact keep hc rfl ha ho
  · -- a variable is written
    rename_i s hop
    have ho : opA P e H o.op = some (r, H') := by rw [hop] at h ⊢; exact h
    have ha : isAppend o.op = false := by rw [hop]; rfl
    have hrun : (execOp a.eval o).run P w = .ok (.value (a.tmps.getD s undef)) w := by unfold execOp; rw [hop]; simp [Act.eval]
    split at hc
    · rename_i d' p hdst hf
      split at hc
      · exact keep hc rfl ha ho
      · injection hc with hc; injection hc with h1 h2; subst h1 h2
        obtain ⟨f1, f3, f4⟩ := ownerOf_spec hf
        have hv : valAt a p.1 p.2.1 = a.tmps.getD s undef := by
          rw [f3]
          rcases f4 with f4 | f4
          · rw [f4]; rfl
          · rw [hA _ f4]; rfl
        refine moved_ok hI hA ho ha hd hdst f1 hrun hv (O1 := dropO p.1 O) (fun q hq => ?_) hn
        simp only [dropO, List.mem_filter] at hq
        refine ⟨hq.1, fun he => ?_⟩
        injection he with e1 e2
        rw [f3] at e2
        simp [e1, e2] at hq
    · exact keep hc rfl ha ho
  · -- a result of several
    rename_i s i hop
    have ho : opA P e H o.op = some (r, H') := by rw [hop] at h ⊢; exact h
    have ha : isAppend o.op = false := by rw [hop]; rfl
    split at hc
    · rename_i d' p hdst hf
      split at hc
      · exact keep hc rfl ha ho
      · injection hc with hc; injection hc with h1 h2; subst h1 h2
        obtain ⟨f1, f3, f4⟩ := ownerOf_spec hf
        have hv : valAt a p.1 p.2.1 = compOf (a.tmps.getD s undef) (i + 1) := by
          rw [f3]
          rcases f4 with f4 | f4
          · rw [f4]; rfl
          · unfold valAt; rw [hA _ f4]
        have hrun : (execOp a.eval o).run P w = .ok (.value (compOf (a.tmps.getD s undef) (i + 1))) w := by
          rw [hop] at ho
          simp only [opA] at ho
          split at ho
          · rename_i xs hx
            obtain ⟨r', hr', _⟩ := Option.map_eq_some_iff.1 ho
            have hr := hI.ev (.tmp s)
            rw [hx] at hr
            have hev : a.eval (.tmp s) = a.tmps.getD s undef := rfl
            rw [hev] at hr
            cases hv : a.tmps.getD s undef with
            | tuple vs =>
              rw [hv] at hr
              cases hr with
              | tup xs arr hl hr =>
                have hlt : i < arr.length := hl ▸ (List.getElem?_eq_some_iff.1 hr').1
                have hg' : (arr.toArray)[i]? = some (arr.getD i undef) := by rw [List.getElem?_toArray]; exact getD_get hlt
                have hg2 : (arr.toArray).getD i undef = arr.getD i undef := by rw [Array.getD_eq_getD_getElem?, hg']; rfl
                unfold execOp
                simp only [hop, hev, hv, Instr.extract, hg', Sem.run_bind, Sem.run_pure, Result.andThen_ok, compOf, hg2]
            | _ => rw [hv] at hr; cases hr
          · cases ho
        refine moved_ok hI hA ho ha hd hdst f1 hrun hv (O1 := O.filter fun q => !(q.1 == p.1 && q.2.1 == i + 1)) (fun q hq => ?_) hn
        simp only [List.mem_filter] at hq
        refine ⟨hq.1, fun he => ?_⟩
        injection he with e1 e2
        rw [f3] at e2
        simp [e1, e2] at hq
    · exact keep hc rfl ha ho
  · -- a literal row
    rename_i t len ps hop
    have ho : opA P e H o.op = some (r, H') := by rw [hop] at h ⊢; exact h
    have ha : isAppend o.op = false := by rw [hop]; rfl
    split at hc
    · rename_i n hsz
      injection hc with hc; injection hc with h1 h2; subst h1 h2
      cases hdst : o.dst with
      | none =>
        rw [hdst] at hn
        exact keepO hI hA ho ha hd (by rw [hdst]; exact hn)
      | some d =>
        refine quiet_ok (A' := killA o.dst A) hI hA ho ha hd (O1 := O) (new := [(d, 0, n)]) (fun p hp => hp) (fun F' L' w' u hdone hbs => ?_) (fun F' L' a' w' h1 h2 => hn F' L' a' w' (by rw [hdst] at h1 ⊢; exact h1) h2)
        obtain ⟨el, n', h1, h2, h3, h4, h5⟩ := hbs t len ps hop
        have hnn : n' = n := by
          unfold elemSz at hsz
          rw [h1] at hsz
          simp only [Option.bind_some] at hsz
          rw [h2] at hsz
          injection hsz
        subst hnn
        refine ⟨fun q hq => ?_, fun q hq q' hq' => ?_, hA.kill hlt _⟩
        · simp at hq
          subst hq
          refine ⟨hdst, h3, fun B hB => .inl ?_⟩
          rw [show compOf u 0 = u from rfl, h4] at hB
          injection hB with hB
          omega
        · simp at hq hq'
          rw [hq, hq']
    · cases hc
  · -- append
    rename_i args argTypes hop
    split at hc
    · rename_i b y t tx h1 h2
      obtain ⟨n, hn', hc⟩ := Option.bind_eq_some_iff.1 hc
      obtain ⟨O1, hO1, hc⟩ := Option.map_eq_some_iff.1 hc
      injection hc with h3 h4; subst h3 h4
      have e1 : args = #[b, y] := by obtain ⟨l⟩ := args; simp at h1; subst h1; rfl
      have e2 : argTypes = #[t, tx] := by obtain ⟨l⟩ := argTypes; simp at h2; subst h2; rfl
      subst e1 e2
      exact append_ok hI hA hop (by rw [hop] at h ⊢; exact h) hd hn' hO1 hn
    · cases hc
  · -- a call
    rename_i g args argTypes hop
    obtain ⟨O1, hO1, hc⟩ := Option.map_eq_some_iff.1 hc
    injection hc with h3 h4; subst h3 h4
    rw [hop] at h
    simp only [stepB] at h
    exact call_ok hK hI hA (caps := []) hop rfl (by simpa using h) hd (.inl rfl) hO1 hn
  · -- a call of a function value
    rename_i f args argTypes hnf hop
    rw [hop] at h
    unfold stepB at h
    split at h
    · rename_i heq
      injection heq with heq
      injection heq with e1 e2 e3
      injection e1 with e1
      subst e1 e2
      split at h
      · rename_i g
        exact absurd rfl (hnf g)
      · rename_i g caps hx hgf
        split at h
        · rename_i hdy
          injection hc with hc; injection hc with h1 h2; subst h1 h2
          have hsig := hK.dyn g hdy
          refine call_ok hK hI hA (caps := caps) hop hgf h hd (.inr hsig) (O1 := O) (by rw [hsig]; rfl) (fun F' L' a' w' h1 h2 => hn F' L' a' w' ?_ h2)
          rw [hsig] at h1
          cases hdst : o.dst <;> (rw [hdst] at h1; simpa using h1)
        · cases h
      · cases h
    · rename_i hno
      exact absurd rfl (hno _ _ _)
  · -- all else
    rename_i h1 h2 h3 h4 h5 h6 h7 h8 h9
    have hcall : ∀ f args ts, o.op ≠ .call { callee := .value f, args := args, argTypes := ts } := fun f args ts he => h9 f args ts he
    have happ : isAppend o.op = false := by
      unfold isAppend
      split
      · rename_i args ts he
        exact absurd he (h7 args ts)
      · rfl
    have ho : opA P e H o.op = some (r, H') := by
      unfold stepB at h
      split at h
      · rename_i f args ts he
        exact absurd he (hcall f args ts)
      · exact h
    exact keep hc rfl happ ho

theorem op_ok {call : CallF} (hK : Known P C call) (hI : Inv P G F0 L0 w0 N O e H F L a w) (hA : AliasOK A a) {o : Oper} {r : AV} {H' : Heap} (h : stepA P C call o.dst e H o.op = some (r, H')) (hc : chkOp P C N o O A = some (O', A'))
    {next : Act → World → Prop} {Q : Exit → Act → World → Prop}
    (hn : ∀ F' L' u w', Inv P G F0 L0 w0 N O' (put e o.dst r) H' F' L' (a.put o.dst u) w' → AliasOK A' (a.put o.dst u) → next (a.put o.dst u) w') : o.wp P a w next Q := by
  unfold stepA at h
  split at h
  · rename_i hmu
    obtain ⟨hd, hc'⟩ := dst_lt hc
    unfold chkOp1 at hc'
    dsimp only at hc'
    rw [if_pos hmu] at hc'
    injection hc' with hc'; injection hc' with h1 h2; subst h1 h2
    exact special_ok hI hA h hd hn
  · rename_i hmu
    exact opB_ok hK hI hA h hmu hc hn
end
end Go.Lv
