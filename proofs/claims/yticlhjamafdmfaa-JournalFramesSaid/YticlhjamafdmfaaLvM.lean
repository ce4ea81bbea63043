import Derived.Test.YticlhjamafdmfaaLvL
set_option linter.unusedVariables false
set_option linter.unusedSimpArgs false
namespace Go.Lv
section
variable {P : Program} {C : Cfg} {G : Nat → Prop} {F0 : Facts} {L0 : List Nat} {w0 : World} {N : Nat} {O O' : OSet} {A A' : List (Nat × Nat)} {e : Env} {H : Heap} {F : Facts} {L : List Nat} {a : Act} {w : World}

theorem takeArgs_ok (hI : Inv P G F0 L0 w0 N O e H F L a w) (hA : AliasOK A a) : ∀ (ps : List (Option Nat)) (as : List Operand) (O1 O2 : OSet), (∀ p ∈ O1, p ∈ O) → takeArgs A ps as O1 = some O2 →
    (∀ p ∈ O2, p ∈ O1) ∧
    (∀ (k n : Nat), ps[k]? = some (some n) → Own F L NX w n ((as.map a.eval).getD k undef) ∧ (∀ B, ((as.map a.eval).getD k undef).ownBlock = some B → G B ∨ w0.heap.size ≤ B) ∧
      (∀ p ∈ O2, ∀ B, ((as.map a.eval).getD k undef).ownBlock = some B → (valAt a p.1 p.2.1).ownBlock ≠ some B) ∧
      ((∀ B, ((as.map a.eval).getD k undef).ownBlock ≠ some B) ∨ ∃ q ∈ O1, valAt a q.1 q.2.1 = (as.map a.eval).getD k undef)) ∧
    (∀ (j k n m : Nat), ps[j]? = some (some n) → ps[k]? = some (some m) → j ≠ k → ∀ B, ((as.map a.eval).getD j undef).ownBlock = some B → ((as.map a.eval).getD k undef).ownBlock ≠ some B) := by
  intro ps
  induction ps with
  | nil =>
    intro as O1 O2 hO h
    simp only [takeArgs] at h
    injection h with h; subst h
    exact ⟨fun p hp => hp, fun k n hk => by simp at hk, fun j k n m hj => by simp at hj⟩
  | cons p0 ps ih =>
    intro as O1 O2 hO h
    cases as with
    | nil => cases p0 <;> simp [takeArgs] at h
    | cons x as =>
      cases p0 with
      | none =>
        simp only [takeArgs] at h
        obtain ⟨h1, h2, h3⟩ := ih as O1 O2 hO h
        refine ⟨h1, fun k n hk => ?_, fun j k n m hj hk hne => ?_⟩
        · cases k with
          | zero => simp at hk
          | succ k => simpa using h2 k n (by simpa using hk)
        · cases j with
          | zero => simp at hj
          | succ j =>
            cases k with
            | zero => simp at hk
            | succ k => simpa using h3 j k n m (by simpa using hj) (by simpa using hk) (by omega)
      | some n0 =>
        simp only [takeArgs] at h
        obtain ⟨Om, hm, h⟩ := Option.bind_eq_some_iff.1 h
        have hI1 := hI.sub hO
        obtain ⟨t1, t2, t3, t4, t5⟩ := take_ok hI1 hA hm
        obtain ⟨h1, h2, h3⟩ := ih as Om O2 (fun p hp => hO p (t1 p hp)) h
        refine ⟨fun p hp => t1 p (h1 p hp), fun k n hk => ?_, fun j k n m hj hk hne => ?_⟩
        · cases k with
          | zero =>
            simp at hk
            subst hk
            refine ⟨by simpa using t2, by simpa using t3, fun p hp B hB => t4 p (h1 p hp) B (by simpa using hB), ?_⟩
            rcases t5 with t5 | ⟨q, hq, hv, _⟩
            · exact .inl (by simpa using t5)
            · exact .inr ⟨q, hq, by simpa using hv⟩
          | succ k =>
            obtain ⟨a1, a2, a3, a4⟩ := h2 k n (by simpa using hk)
            refine ⟨by simpa using a1, by simpa using a2, fun p hp B hB => a3 p hp B (by simpa using hB), ?_⟩
            rcases a4 with a4 | ⟨q, hq, hv⟩
            · exact .inl (by simpa using a4)
            · exact .inr ⟨q, t1 q hq, by simpa using hv⟩
        · have cross : ∀ (k m : Nat), ps[k]? = some (some m) → ∀ B, (a.eval x).ownBlock = some B → ((as.map a.eval).getD k undef).ownBlock ≠ some B := by
            intro k m hk B hB hB'
            rcases (h2 k m hk).2.2.2 with a4 | ⟨q, hq, hv⟩
            · exact a4 B hB'
            · rw [← hv] at hB'
              exact t4 q hq B hB hB'
          intro B hB
          cases j with
          | zero =>
            cases k with
            | zero => exact absurd rfl hne
            | succ k => simpa using cross k m (by simpa using hk) B (by simpa using hB)
          | succ j =>
            cases k with
            | zero =>
              intro hB'
              exact cross j n (by simpa using hj) B (by simpa using hB') (by simpa using hB)
            | succ k => simpa using h3 j k n m (by simpa using hj) (by simpa using hk) (by omega) B (by simpa using hB)

/-- What is known of the callees. -/
structure Known (P : Program) (C : Cfg) (call : CallF) : Prop where
  ok : ∀ g args H r H', call g args H = some (r, H') → CallOK P (C.sig g) g args H r H' ∧ Callable P g
  dyn : ∀ g, C.dyn g = true → C.sig g = {}

theorem call_ok {call : CallF} (hK : Known P C call) (hI : Inv P G F0 L0 w0 N O e H F L a w) (hA : AliasOK A a) {o : Oper} {g : FuncId} {x : Operand} {args : Array Operand} {ts : Array TypeId} {caps : List AV} {r : AV} {H' : Heap}
    (hop : o.op = .call { callee := .value x, args, argTypes := ts }) (hx : ev e x = .fn g caps) (h : call g (args.toList.map (fun x => argA C g (ev e x)) ++ caps) H = some (r, H')) (hd : ∀ d', o.dst = some d' → d' < N)
    {O1 : OSet} (hnocap : caps = [] ∨ C.sig g = {}) (ht : takeArgs A (C.sig g).ps args.toList O = some O1)
    {next : Act → World → Prop} {Q : Exit → Act → World → Prop}
    (hn : ∀ F' L' u w', Inv P G F0 L0 w0 N ((match o.dst with | some d => (C.sig g).rs.map fun p => (d, p.1, p.2) | none => []) ++ killO o.dst O1) (put e o.dst r) H' F' L' (a.put o.dst u) w' → AliasOK (killA o.dst A) (a.put o.dst u) → next (a.put o.dst u) w') : o.wp P a w next Q := by
  obtain ⟨hok, hcall⟩ := hK.ok _ _ _ _ _ h
  have hfx := hI.ev x
  rw [hx] at hfx
  obtain ⟨cv, hcl, hcr, hfv⟩ : ∃ cv : List Value, cv.length = caps.length ∧ (∀ (k : Nat) (c : AV), caps[k]? = some c → Rel F L c (cv.getD k undef)) ∧ a.eval x = .func (.func g) #[] cv.toArray := by
    generalize a.eval x = v at hfx
    cases hfx with
    | fn f xs arr hl hr => exact ⟨arr, hl, hr, rfl⟩
  obtain ⟨t1, t2, t3⟩ := takeArgs_ok hI hA (C.sig g).ps args.toList O O1 (fun p hp => hp) ht
  obtain ⟨vs, hvs⟩ : ∃ vs : List Value, vs = args.toList.map a.eval ++ cv := ⟨_, rfl⟩
  have hrun : (execOp a.eval o).run P w = .ok (.enter g vs.toArray) w := by
    have : (args.map a.eval ++ cv.toArray) = vs.toArray := by apply Array.ext'; simp [hvs]
    unfold execOp
    simp only [hop, resolve, hfv, Deferred.ofValue, invoke, Sem.run_bind, Sem.run_pure, Result.andThen_ok, Array.empty_append]
    rw [this]
    exact callFunc_run hcall _
  -- the owned arguments stand among the plain ones
  have hin : ∀ (k n : Nat), (C.sig g).ps[k]? = some (some n) → vs.getD k undef = (args.toList.map a.eval).getD k undef := by
    intro k n hk
    rcases hnocap with hc | hc
    · subst hc
      have : cv = [] := List.eq_nil_of_length_eq_zero hcl
      rw [hvs, this, List.append_nil]
    · rw [hc] at hk
      simp at hk
  have hargs : ArgsOwn (C.sig g).ps F L w vs := by
    refine ⟨fun k n hk => ?_, fun j k n m hj hk hne B hB => ?_⟩
    · rw [hin k n hk]; exact (t2 k n hk).1
    · rw [hin j n hj] at hB
      rw [hin k m hk]
      exact t3 j k n m hj hk hne B hB
  have hrel : ∀ (k : Nat) (c : AV), (args.toList.map (fun x => argA C g (ev e x)) ++ caps)[k]? = some c → Rel F L c (vs.getD k undef) := by
    intro k c hk
    rw [hvs, List.getD_eq_getElem?_getD]
    rcases Nat.lt_or_ge k (args.toList.map fun x => argA C g (ev e x)).length with hl | hl
    · rw [List.getElem?_append_left hl] at hk
      rw [List.getElem?_append_left (by simpa using hl), ← List.getD_eq_getElem?_getD]
      exact argsRel (f := fun x => argA C g (ev e x)) (fun x => argA_rel (hI.ev x)) args k c hk
    · rw [List.getElem?_append_right hl] at hk
      rw [List.getElem?_append_right (by simpa using hl), ← List.getD_eq_getElem?_getD]
      simpa using hcr _ c hk
  have hcalls := hok F L w vs hI.st (by rw [hvs]; simp [hcl]) hrel hargs
  unfold Oper.wp
  rw [hrun, Oper.upon_enter]
  refine hcalls.mono ?_
  rintro en w' ⟨v, F', L', rfl, hret⟩
  have hGP : ∀ B, GP (C.sig g).ps vs B → (G B ∨ w0.heap.size ≤ B) ∧ ∀ p ∈ O1, (valAt a p.1 p.2.1).ownBlock ≠ some B := by
    rintro B ⟨k, n, hk, hB⟩
    rw [hin k n hk] at hB
    exact ⟨(t2 k n hk).2.1 B hB, fun p hp => (t2 k n hk).2.2.1 p hp B hB⟩
  refine hn F' L' _ w' ?_ (hA.kill (fun d' he => Nat.lt_of_lt_of_le (hd d' he) hI.size) v)
  have hnew : ∀ p ∈ (match o.dst with | some d => (C.sig g).rs.map fun p => (d, p.1, p.2) | none => [] : OSet), o.dst = some p.1 ∧ (p.2.1, p.2.2) ∈ (C.sig g).rs := by
    intro p hp
    split at hp
    · rename_i d hdst
      obtain ⟨q, hq, rfl⟩ := List.mem_map.1 hp
      exact ⟨hdst, hq⟩
    · cases hp
  refine hI.step hd hret.st hret.goes hret.rel (fun B hB hg => ((hGP B hg).1).elim id (fun h => by omega)) t1 (fun p hp B hB hg => (hGP B hg).2 p hp hB) (fun p hp => ?_) (fun p hp B hB => ?_) (fun p hp q hq hne B hB => ?_)
  · obtain ⟨h1, h2⟩ := hnew p hp
    exact ⟨h1, (hret.own _ h2).1, (hret.own _ h2).2⟩
  · obtain ⟨h1, h2⟩ := hnew p hp
    rcases (hret.own _ h2).2 B hB with h3 | h3
    · exact (hGP B h3).1
    · exact .inr (by have := hI.goes.size; omega)
  · obtain ⟨h1, h2⟩ := hnew p hp
    obtain ⟨h3, h4⟩ := hnew q hq
    rw [h1] at h3
    injection h3 with h3
    exact hret.apart _ h2 _ h4 (fun he => hne (by rw [h3, he])) B hB

theorem dst_lt {o : Oper} (h : chkOp P C N o O A = some (O', A')) : (∀ d', o.dst = some d' → d' < N) ∧ chkOp1 P C o O A = some (O', A') := by
  unfold chkOp at h
  split at h
  · rename_i hc
    refine ⟨fun d' hd => ?_, h⟩
    rw [hd] at hc
    simpa [dstLt] using hc
  · cases h

theorem keepO (hI : Inv P G F0 L0 w0 N O e H F L a w) (hA : AliasOK A a) {o : Oper} {r : AV} {H' : Heap} (h : opA P e H o.op = some (r, H')) (happ : isAppend o.op = false) (hd : ∀ d', o.dst = some d' → d' < N)
    {next : Act → World → Prop} {Q : Exit → Act → World → Prop}
    (hn : ∀ F' L' u w', Inv P G F0 L0 w0 N (killO o.dst O) (put e o.dst r) H' F' L' (a.put o.dst u) w' → AliasOK (killA o.dst A) (a.put o.dst u) → next (a.put o.dst u) w') : o.wp P a w next Q :=
  quiet_ok (A' := killA o.dst A) hI hA h happ hd (O1 := O) (new := []) (fun p hp => hp)
    (fun F' L' w' u hdone _ => ⟨fun p hp => by simp at hp, fun p hp => by simp at hp, hA.kill (fun d' he => Nat.lt_of_lt_of_le (hd d' he) hI.size) u⟩) hn

theorem done_val {X : Nat → Prop} {o : Oper} {ρ : Operand → Value} {r : AV} {H' : Heap} {F' : Facts} {L' : List Nat} {w' : World} {u x : Value} (h : Done P X F L w o ρ r H' F' L' w' u) (hr : (execOp ρ o).run P w = .ok (.value x) w) : u = x ∧ w' = w := by
  rcases h.run with h1 | ⟨h1, _⟩
  · rw [hr] at h1
    injection h1 with h1 h2
    injection h1 with h1
    exact ⟨h1.symm, h2.symm⟩
  · rw [hr] at h1
    cases h1

theorem moved_ok (hI : Inv P G F0 L0 w0 N O e H F L a w) (hA : AliasOK A a) {o : Oper} {p : Nat × Nat × Nat} {x : Value} {r : AV} {H' : Heap} (h : opA P e H o.op = some (r, H')) (happ : isAppend o.op = false) (hd : ∀ d', o.dst = some d' → d' < N)
    {d : Nat} (hdst : o.dst = some d) (hp : p ∈ O) (hrun : (execOp a.eval o).run P w = .ok (.value x) w) (hx : valAt a p.1 p.2.1 = x)
    {O1 : OSet} (hO1 : ∀ q ∈ O1, q ∈ O ∧ (q.1, q.2.1) ≠ (p.1, p.2.1))
    {next : Act → World → Prop} {Q : Exit → Act → World → Prop}
    (hn : ∀ F' L' u w', Inv P G F0 L0 w0 N (addO o.dst 0 p.2.2 (killO o.dst O1)) (put e o.dst r) H' F' L' (a.put o.dst u) w' → AliasOK (killA o.dst A) (a.put o.dst u) → next (a.put o.dst u) w') : o.wp P a w next Q := by
  refine quiet_ok (A' := killA o.dst A) hI hA h happ hd (O1 := O1) (new := [(d, 0, p.2.2)]) (fun q hq => (hO1 q hq).1) (fun F' L' w' u hdone _ => ?_) (fun F' L' a' w' h1 h2 => hn F' L' a' w' (by rw [hdst] at h1 ⊢; exact h1) h2)
  obtain ⟨rfl, rfl⟩ := done_val hdone hrun
  refine ⟨fun q hq => ?_, fun q hq q' hq' => ?_, hA.kill (fun d' he => Nat.lt_of_lt_of_le (hd d' he) hI.size) _⟩
  · simp at hq
    subst hq
    refine ⟨hdst, ?_, fun B hB => .inr ⟨p, hp, hx, fun q' hq' => (hO1 q' hq').2⟩⟩
    have := (hI.own p hp).goes hdone.goes (fun B _ h => h.elim)
    rw [hx] at this
    exact this
  · simp at hq hq'
    rw [hq, hq']

theorem nil_ok (hI : Inv P G F0 L0 w0 N O e H F L a w) (hA : AliasOK A a) {o : Oper} {v : Value} {r : AV} {H' : Heap} (h : opA P e H o.op = some (r, H')) (happ : isAppend o.op = false) (hd : ∀ d', o.dst = some d' → d' < N)
    (hv : isNil v = true) (hrun : (execOp a.eval o).run P w = .ok (.value v) w) (n : Nat)
    {next : Act → World → Prop} {Q : Exit → Act → World → Prop}
    (hn : ∀ F' L' u w', Inv P G F0 L0 w0 N (addO o.dst 0 n (killO o.dst O)) (put e o.dst r) H' F' L' (a.put o.dst u) w' → AliasOK (killA o.dst A) (a.put o.dst u) → next (a.put o.dst u) w') : o.wp P a w next Q := by
  have hb : v.ownBlock = none := by
    cases v with
    | slice ad l c => cases ad <;> simp_all [isNil, Value.ownBlock]
    | _ => simp_all [isNil]
  cases hdst : o.dst with
  | none => rw [hdst] at hn; exact keepO hI hA h happ hd (by rw [hdst]; exact hn)
  | some d =>
    refine quiet_ok (A' := killA o.dst A) hI hA h happ hd (O1 := O) (new := [(d, 0, n)]) (fun q hq => hq) (fun F' L' w' u hdone _ => ?_) (fun F' L' a' w' h1 h2 => hn F' L' a' w' (by rw [hdst] at h1 ⊢; exact h1) h2)
    obtain ⟨rfl, rfl⟩ := done_val hdone hrun
    refine ⟨fun q hq => ?_, fun q hq q' hq' => ?_, hA.kill (fun d' he => Nat.lt_of_lt_of_le (hd d' he) hI.size) _⟩
    · simp at hq
      subst hq
      refine ⟨hdst, own_none hb, fun B hB => ?_⟩
      rw [show compOf u 0 = u from rfl, hb] at hB
      cases hB
    · simp at hq hq'
      rw [hq, hq']
end
end Go.Lv
