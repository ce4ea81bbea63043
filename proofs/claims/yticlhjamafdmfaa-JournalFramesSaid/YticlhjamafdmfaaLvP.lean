import Derived.Test.YticlhjamafdmfaaLvR
set_option linter.unusedVariables false
set_option linter.unusedSimpArgs false
namespace Go.Lv
section
variable {P : Program} {C : Cfg} {F : Facts} {L : List Nat} {w : World} {H : Heap}

theorem params0_mem : ∀ (ps : List (Option Nat)) (i : Nat) (p : Nat × Nat × Nat), p ∈ params0 i ps → ∃ k n, p = (i + k, 0, n) ∧ ps[k]? = some (some n) := by
  intro ps
  induction ps with
  | nil => intro i p h; simp [params0] at h
  | cons q ps ih =>
    intro i p h
    cases q with
    | none =>
      simp only [params0] at h
      obtain ⟨k, n, rfl, h2⟩ := ih (i + 1) p h
      exact ⟨k + 1, n, by rw [show i + 1 + k = i + (k + 1) by omega], by simpa using h2⟩
    | some m =>
      simp only [params0] at h
      rcases List.mem_cons.1 h with rfl | h
      · exact ⟨0, m, rfl, rfl⟩
      · obtain ⟨k, n, rfl, h2⟩ := ih (i + 1) p h
        exact ⟨k + 1, n, by rw [show i + 1 + k = i + (k + 1) by omega], by simpa using h2⟩

theorem mapM_res {e : Env} {tmps : Array Value} (hS : St P F L NX w H) (ht : ∀ t, Rel F L (e t) (tmps.getD t undef)) : ∀ (rs : List ResultVar) (as : List AV), rs.mapM (resA P e H) = some as →
    ∃ vs : List Value, (rs.mapM (fun | .tmp t => pure (tmps.getD t undef) | .cell a t => do loadVar t (← asAddr (tmps.getD a undef)) : ResultVar → Sem Value)).run P w = .ok vs w ∧ vs.length = as.length ∧ as.length = rs.length ∧
      (∀ (k : Nat) c, as[k]? = some c → Rel F L c (vs.getD k undef)) ∧ ∀ (k t : Nat), rs[k]? = some (.tmp t) → vs.getD k undef = tmps.getD t undef := by
  intro rs
  induction rs with
  | nil => intro as h; simp at h; subst h; exact ⟨[], rfl, rfl, rfl, fun k c h => by simp at h, fun k t h => by simp at h⟩
  | cons r rs ih =>
    intro as h
    rw [List.mapM_cons] at h
    obtain ⟨a, ha, h⟩ := Option.bind_eq_some_iff.1 h
    obtain ⟨as', has, h⟩ := Option.bind_eq_some_iff.1 h
    injection h with h; subst h
    obtain ⟨vs, h1, h2, h2', h3, h4⟩ := ih as' has
    have one : ∃ v, ((fun | .tmp t => pure (tmps.getD t undef) | .cell a t => do loadVar t (← asAddr (tmps.getD a undef)) : ResultVar → Sem Value) r).run P w = .ok v w ∧ Rel F L a v ∧ ∀ t, r = .tmp t → v = tmps.getD t undef := by
      cases r with
      | tmp t =>
        simp only [resA] at ha
        injection ha with ha; subst ha
        exact ⟨_, rfl, ht t, fun t' h => by injection h with h; rw [h]⟩
      | cell p t =>
        simp only [resA] at ha
        have hp := ht p
        obtain ⟨u, hu, hr⟩ := loadA_run hS hp ha
        refine ⟨u, ?_, hr, fun t h => by cases h⟩
        unfold loadA at ha
        simp only [Sem.run_bind]
        generalize tmps.getD p undef = pv at hp hu ⊢
        split at ha
        · rename_i j off hj
          rw [hj] at hp
          cases hp
          rename_i B hB
          simpa [Instr.loadAt, Instr.sureAddr, asAddr] using hu
        · rename_i e' off hj
          rw [hj] at hp
          cases hp
          simpa [Instr.loadAt, Instr.sureAddr, asAddr] using hu
        · cases ha
    obtain ⟨v, hv1, hv2, hv3⟩ := one
    refine ⟨v :: vs, ?_, by simp [h2], by simp [h2'], fun k c hk => ?_, fun k t hk => ?_⟩
    · rw [List.mapM_cons]
      simp only [Sem.run_bind, hv1, Result.andThen_ok, h1, Sem.run_pure]
    · cases k with
      | zero => simp at hk; subst hk; simpa using hv2
      | succ k => simpa using h3 k c (by simpa using hk)
    · cases k with
      | zero => simp at hk; simpa using hv3 t hk
      | succ k => simpa using h4 k t (by simpa using hk)

theorem results_ok {fn : Func} {e : Env} {tmps : Array Value} {r : AV} (hS : St P F L NX w H) (ht : ∀ t, Rel F L (e t) (tmps.getD t undef)) (h : resultsA P fn e H = some r) :
    ∃ v, (results fn tmps).run P w = .ok v w ∧ Rel F L r v ∧ ∀ c t, resT fn c = some t → compOf v c = tmps.getD t undef := by
  unfold resultsA at h
  have key : ∀ as, fn.results.toList.mapM (resA P e H) = some as → ∃ vs : List Value, (results fn tmps).run P w = .ok (if h : vs.toArray.size = 1 then vs.toArray[0] else .tuple vs.toArray) w ∧ vs.length = as.length ∧ as.length = fn.results.toList.length ∧
      (∀ (k : Nat) c, as[k]? = some c → Rel F L c (vs.getD k undef)) ∧ ∀ (k t : Nat), fn.results.toList[k]? = some (.tmp t) → vs.getD k undef = tmps.getD t undef := by
    intro as has
    obtain ⟨vs, h1, h2, h2', h3, h4⟩ := mapM_res hS ht fn.results.toList as has
    refine ⟨vs, ?_, h2, h2', h3, h4⟩
    unfold results
    rw [← Array.toArray_toList (xs := fn.results), List.mapM_toArray]
    simp only [Sem.run_bind, Sem.run_map, Sem.run_pure]
    exact congrArg (fun z : Result (List Value) => (z.andThen fun a w' => Result.ok a.toArray w').andThen fun a w' => .ok (if h : a.size = 1 then a[0] else Value.tuple a) w') h1
  split at h
  · rename_i a has
    injection h with h; subst h
    obtain ⟨vs, h1, h2, h2', h3, h4⟩ := key _ has
    obtain ⟨v, rfl⟩ : ∃ v, vs = [v] := by
      match vs, h2 with
      | [v], _ => exact ⟨v, rfl⟩
    refine ⟨v, by simpa using h1, by simpa using h3 0 a rfl, fun c t hc => ?_⟩
    unfold resT at hc
    split at hc
    · rename_i t' hl
      injection hc with hc; subst hc
      simpa [compOf] using h4 0 t' (by rw [hl]; rfl)
    · rename_i l i _
      split at hc
      · rename_i h2l
        simp at h2'
        simp at h2l
        omega
      · cases hc
    · cases hc
  · rename_i as hne has
    injection h with h; subst h
    obtain ⟨vs, h1, h2, h2', h3, h4⟩ := key _ has
    have hne1 : ¬ vs.toArray.size = 1 := by
      intro h0
      have h0' : as.length = 1 := by simpa [← h2] using h0
      match as, h0' with
      | [a], _ => exact hne a rfl
    rw [dif_neg hne1] at h1
    refine ⟨_, h1, .tup as vs h2 h3, fun c t hc => ?_⟩
    unfold resT at hc
    split at hc
    · rename_i t' hl
      rw [hl] at h2'
      simp at hne1
      simp at h2'
      omega
    · rename_i i
      split at hc
      · split at hc
        · rename_i t' hg
          injection hc with hc; subst hc
          have := h4 i t' hg
          simp only [compOf]
          rw [← this]
          simp [List.getD_eq_getElem?_getD, Array.getD_eq_getD_getElem?]
        · cases hc
      · cases hc
    · cases hc
  · cases h

structure World0 (P : Program) (C : Cfg) : Prop where
  ext : ∀ g s, C.ext g = some s → ∀ args H r H', s args H = some (r, H') → CallOK P (C.sig g) g args H r H'
  extc : ∀ g, (C.ext g).isSome = true → Callable P g
  chk : ∀ g, C.ext g = none → C.ok g = true → chkFn P C g = true
  dyn : ∀ g, C.dyn g = true → C.sig g = {}
  mixed : P.follows .mixedOrders = true

theorem chkFn_some {f : FuncId} (h : chkFn P C f = true) : ∃ fn c O R, P.funcs[f]? = some fn ∧ fn.body = some c ∧ chkCode P (C.at f) fn.ntmps (retOK fn (C.sig f).rs) c O = some R ∧ O = params0 0 (C.sig f).ps ∧ R.2 = [] ∧ (∀ O1, R.1 = some O1 → retOK fn (C.sig f).rs O1 = true) ∧ (fn.name == "runtime.NumGoroutine") = false := by
  unfold chkFn at h
  split at h
  · rename_i fn hf
    split at h
    · rename_i c hc
      split at h
      · rename_i O hk
        simp only [Bool.and_eq_true, Bool.not_eq_true'] at h
        exact ⟨fn, c, _, _, hf, hc, hk, rfl, rfl, (fun O1 h1 => by injection h1 with h1; subst h1; exact h.1), h.2⟩
      · rename_i hk
        simp only [Bool.not_eq_true'] at h
        exact ⟨fn, c, _, _, hf, hc, hk, rfl, rfl, (fun O1 h1 => by cases h1), h⟩
      · cases h
    · cases h
  · cases h

theorem retOK_mono {fn : Func} {rs : List (Nat × Nat)} {O O' : OSet} (h : retOK fn rs O = true) (hs : ∀ p ∈ O, p ∈ O') : retOK fn rs O' = true := by
  unfold retOK at h ⊢
  simp only [Bool.and_eq_true] at h ⊢
  refine ⟨?_, h.2⟩
  rw [List.all_eq_true] at h ⊢
  intro p hp
  have := h.1 p hp
  split at this
  · rename_i t ht
    simp only [List.contains_iff_mem] at this ⊢
    exact hs _ this
  · cases this

theorem lcall_ok (W : World0 P C) : ∀ n, Known P C (lcall P C n) := by
  intro n
  induction n with
  | zero => exact ⟨(fun g args H r H' h => by cases h), W.dyn⟩
  | succ n ih =>
    refine ⟨fun g args H r H' h => ?_, W.dyn⟩
    unfold lcall at h
    split at h
    · rename_i s hs
      exact ⟨W.ext g s hs args H r H' h, W.extc g (by rw [hs]; rfl)⟩
    · rename_i hext
      split at h
      · rename_i hok
        obtain ⟨fn, c, O, R, hf, hb, hck, rfl, hR2, hR1, hname⟩ := chkFn_some (W.chk g hext hok)
        refine ⟨?_, ⟨fn, hf, by rw [hb]; rfl, hname⟩⟩
        rw [hf] at h
        simp only [hb] at h
        split at h
        · cases h
        · rename_i x e1 H1 hnx hl
          obtain ⟨r', hr', he⟩ := Option.map_eq_some_iff.1 h
          injection he with h1 h2; subst h1 h2
          intro F L w vs hS hlen hrel hargs
          have htm : ∀ k, (vs.toArray ++ Array.replicate (fn.ntmps - vs.toArray.size) undef).getD k undef = vs.getD k undef := by
            intro k
            rw [Array.getD_eq_getD_getElem?, List.getD_eq_getElem?_getD, Array.getElem?_append]
            split
            · simp
            · rename_i hk
              simp at hk
              rw [Array.getElem?_replicate, List.getElem?_eq_none hk]
              split <;> rfl
          refine calls_of_wp hf hb ?_
          have hI : Inv P (GP (C.sig g).ps vs) F L w fn.ntmps (params0 0 (C.sig g).ps) (env0 args) H F L { tmps := vs.toArray ++ Array.replicate (fn.ntmps - vs.toArray.size) undef, defers := [] } w := by
            refine ⟨hS, Goes.refl _ F L w, fun t => ?_, by simp; omega, rfl, fun p hp => ?_, fun p hp q hq hne B hB => ?_, fun p hp B hB => .inl ?_⟩
            · rw [htm t]
              unfold env0
              rw [List.getD_eq_getElem?_getD]
              cases hx : args[t]? with
              | none => exact .un _
              | some a => exact hrel t a hx
            · obtain ⟨k, m, rfl, hk⟩ := params0_mem _ _ _ hp
              have := hargs.1 k m hk
              simp only [valAt, compOf, Nat.zero_add, htm]
              exact this
            · obtain ⟨k, m, rfl, hk⟩ := params0_mem _ _ _ hp
              obtain ⟨k', m', rfl, hk'⟩ := params0_mem _ _ _ hq
              simp only [valAt, compOf, Nat.zero_add, htm] at hB ⊢
              exact hargs.2 k k' m m' hk hk' (fun h => hne (by simp [h])) B hB
            · obtain ⟨k, m, rfl, hk⟩ := params0_mem _ _ _ hp
              simp only [valAt, compOf, Nat.zero_add, htm] at hB
              exact ⟨k, m, hk, hB⟩
          refine lcode_ok (C := C.at g) ⟨ih.ok, ih.dyn⟩ W.mixed n c R _ _ _ _ _ _ _ x e1 H1 _ hck hl hI fun O' F' L' a' w' hleft hI' => ?_
          have hret : retOK fn (C.sig g).rs O' = true := by
            cases x with
            | normal =>
              obtain ⟨O1, h1, h2⟩ := hleft
              exact retOK_mono (hR1 O1 h1) h2
            | exit id => exact (hnx id rfl).elim
            | ret => exact hleft
          obtain ⟨v, hv1, hv2, hv3⟩ := results_ok hI'.st hI'.tie hr'
          have hR : Ret P (C.sig g) F L w vs r' H1 v F' L' w' := by
            unfold retOK at hret
            simp only [Bool.and_eq_true, List.all_eq_true] at hret
            have place : ∀ p ∈ (C.sig g).rs, ∃ t, resT fn p.1 = some t ∧ (t, 0, p.2) ∈ O' ∧ compOf v p.1 = valAt a' t 0 := by
              intro p hp
              have := hret.1 p hp
              split at this
              · rename_i t ht
                exact ⟨t, ht, by simpa using this, hv3 _ _ ht⟩
              · cases this
            refine ⟨hv2, hI'.st, hI'.goes, fun p hp => ?_, fun p hp q hq hne B hB => ?_⟩
            · obtain ⟨t, h1, h2, h3⟩ := place p hp
              rw [h3]
              exact ⟨hI'.own _ h2, fun B hB => hI'.frm _ h2 B hB⟩
            · obtain ⟨t, h1, h2, h3⟩ := place p hp
              obtain ⟨t', h1', h2', h3'⟩ := place q hq
              rw [h3] at hB
              rw [h3']
              have := hret.2 p hp q hq
              simp only [Bool.or_eq_true, beq_iff_eq, Bool.not_eq_true', beq_eq_false_iff_ne] at this
              refine hI'.apart _ h2 _ h2' (fun he => ?_) B hB
              injection he with he1
              rcases this with h | h
              · exact hne h
              · rw [h1, h1'] at h; exact h (congrArg some he1)
          cases x with
          | normal => exact ⟨hI'.defers, v, hv1, v, F', L', rfl, hR⟩
          | exit id => exact (hnx id rfl).elim
          | ret => exact ⟨hI'.defers, v, hv1, v, F', L', rfl, hR⟩
        · cases h
      · cases h
end
end Go.Lv
