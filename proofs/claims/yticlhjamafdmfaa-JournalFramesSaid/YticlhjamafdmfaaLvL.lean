import Derived.Test.YticlhjamafdmfaaLvK
set_option linter.unusedVariables false
set_option linter.unusedSimpArgs false
namespace Go.Lv
section
variable {P : Program} {C : Cfg} {G : Nat → Prop} {F0 : Facts} {L0 : List Nat} {w0 : World} {N : Nat} {O O' : OSet} {A A' : List (Nat × Nat)} {e : Env} {H : Heap} {F : Facts} {L : List Nat} {a : Act} {w : World}

def AliasOK (A : List (Nat × Nat)) (a : Act) : Prop := ∀ p ∈ A, a.tmps.getD p.1 undef = a.tmps.getD p.2 undef

theorem mem_killA {d : Option Nat} {p : Nat × Nat} (h : p ∈ killA d A) : p ∈ A ∧ d ≠ some p.1 ∧ d ≠ some p.2 := by
  cases d with
  | none => exact ⟨h, by simp, by simp⟩
  | some d =>
    simp only [killA, List.mem_filter, Bool.and_eq_true, bne_iff_ne] at h
    exact ⟨h.1, fun e => h.2.1 (by injection e with e; exact e.symm), fun e => h.2.2 (by injection e with e; exact e.symm)⟩

theorem AliasOK.kill (hA : AliasOK A a) {d : Option Nat} (hd : ∀ d', d = some d' → d' < a.tmps.size) (u : Value) : AliasOK (killA d A) (a.put d u) := by
  intro p hp
  obtain ⟨h1, h2, h3⟩ := mem_killA hp
  rw [getD_put a d u _ hd, getD_put a d u _ hd, if_neg h2, if_neg h3]
  exact hA p h1

/-- What an operation without a call or append comes to. -/
theorem quiet_ok (hI : Inv P G F0 L0 w0 N O e H F L a w) (hA : AliasOK A a) {o : Oper} {r : AV} {H' : Heap} (h : opA P e H o.op = some (r, H')) (happ : isAppend o.op = false)
    (hd : ∀ d', o.dst = some d' → d' < N) {O1 new : OSet} (hO : ∀ p ∈ O1, p ∈ O)
    (hnew : ∀ (F' : Facts) (L' : List Nat) (w' : World) (u : Value), Done P NX F L w o a.eval r H' F' L' w' u → (∀ t len ps, o.op = .buildSlice t len ps → ∃ el n, elemOfT P t = some el ∧ sizeT P el = some n ∧ Own F' L' NX w' n u ∧ u.ownBlock = some w.heap.size ∧ w.heap.size < w'.heap.size) →
      (∀ p ∈ new, o.dst = some p.1 ∧ Own F' L' NX w' p.2.2 (compOf u p.2.1) ∧ (∀ B, (compOf u p.2.1).ownBlock = some B → w.heap.size ≤ B ∨ (∃ q ∈ O, valAt a q.1 q.2.1 = compOf u p.2.1 ∧ ∀ q' ∈ O1, (q'.1, q'.2.1) ≠ (q.1, q.2.1)))) ∧ (∀ p ∈ new, ∀ q ∈ new, p = q) ∧ AliasOK A' (a.put o.dst u))
    {next : Act → World → Prop} {Q : Exit → Act → World → Prop}
    (hn : ∀ F' L' u w', Inv P G F0 L0 w0 N (new ++ killO o.dst O1) (put e o.dst r) H' F' L' (a.put o.dst u) w' → AliasOK A' (a.put o.dst u) → next (a.put o.dst u) w') : o.wp P a w next Q := by
  obtain ⟨F', L', w', u, hdone, hbs⟩ := opA_run hI.st (o := o) (ρ := a.eval) (fun x => hI.ev x) (fun _ => rfl) h happ
  obtain ⟨n1, n2, n3⟩ := hnew F' L' w' u hdone hbs
  have hfin : next (a.put o.dst u) w' := by
    refine hn F' L' _ w' ?_ n3
    have hgoes : Goes (fun B => ∃ p ∈ new, (compOf u p.2.1).ownBlock = some B) F L w F' L' w' := hdone.goes.weaken (fun _ _ h => h.elim)
    refine hI.step hd hdone.st hgoes hdone.rel ?_ hO ?_ (fun p hp => ⟨(n1 p hp).1, (n1 p hp).2.1, fun B hB => .inl ⟨p, hp, hB⟩⟩) ?_ ?_
    · rintro B hB ⟨p, hp, hpB⟩
      rcases (n1 p hp).2.2 B hpB with h1 | ⟨q, hq, h1, _⟩
      · have := hI.goes.size; omega
      · rw [← h1] at hpB
        rcases hI.frm q hq B hpB with h2 | h2
        · exact h2
        · omega
    · rintro q' hq' B hB ⟨p, hp, hpB⟩
      rcases (n1 p hp).2.2 B hpB with h1 | ⟨q, hq, h1, h2⟩
      · have := own_block_lt (hI.own q' (hO q' hq')) hB; omega
      · rw [← h1] at hpB
        exact hI.apart q' (hO q' hq') q hq (h2 q' hq') B hB hpB
    · intro p hp B hpB
      rcases (n1 p hp).2.2 B hpB with h1 | ⟨q, hq, h1, _⟩
      · exact .inr (by have := hI.goes.size; omega)
      · rw [← h1] at hpB
        exact hI.frm q hq B hpB
    · intro p hp q hq hne
      rw [n2 p hp q hq] at hne
      exact absurd rfl hne
  unfold Oper.wp
  rcases hdone.run with hr | ⟨hr, rfl⟩
  · rw [hr]; exact hfin
  · rw [hr]; exact hfin

theorem own_none {X : Nat → Prop} {n : Nat} {v : Value} (h : v.ownBlock = none) : Own F L X w n v := by
  intro ad len cap hv
  subst hv
  simp [Value.ownBlock] at h

theorem take_ok (hI : Inv P G F0 L0 w0 N O e H F L a w) (hA : AliasOK A a) {n : Nat} {x : Operand} (h : takeO O A n x = some O') :
    (∀ p ∈ O', p ∈ O) ∧ Own F L NX w n (a.eval x) ∧ (∀ B, (a.eval x).ownBlock = some B → G B ∨ w0.heap.size ≤ B) ∧ (∀ p ∈ O', ∀ B, (a.eval x).ownBlock = some B → (valAt a p.1 p.2.1).ownBlock ≠ some B) ∧
    ((∀ B, (a.eval x).ownBlock ≠ some B) ∨ ∃ q ∈ O, valAt a q.1 q.2.1 = a.eval x ∧ q.2.1 = 0 ∧ ∀ p ∈ O', (p.1, p.2.1) ≠ (q.1, q.2.1)) := by
  cases x with
  | tmp t =>
    obtain ⟨s, hs, rfl⟩ := Option.map_eq_some_iff.1 h
    have key : (s, 0, n) ∈ O ∧ a.tmps.getD t undef = a.tmps.getD s undef := by
      unfold rootOf at hs
      split at hs
      · rename_i hc
        injection hs with hs; subst hs
        exact ⟨by simpa using hc, rfl⟩
      · obtain ⟨p, hp, hs⟩ := Option.bind_eq_some_iff.1 hs
        split at hs
        · rename_i hc
          injection hs with hs; subst hs
          have h1 := List.find?_some hp
          have h2 := List.mem_of_find?_eq_some hp
          simp at h1
          subst h1
          exact ⟨by simpa using hc, hA p h2⟩
        · cases hs
    obtain ⟨k1, k2⟩ := key
    have hv : a.eval (.tmp t) = valAt a s 0 := k2
    have hne : ∀ p ∈ dropO s O, (p.1, p.2.1) ≠ (s, 0) := by
      intro p hp hh
      simp only [dropO, List.mem_filter] at hp
      injection hh with h1 h2
      simp [h1, h2] at hp
    rw [hv]
    refine ⟨fun p hp => (List.mem_filter.1 hp).1, hI.own _ k1, hI.frm _ k1, fun p hp B hB hpB => ?_, .inr ⟨_, k1, rfl, rfl, hne⟩⟩
    exact hI.apart _ k1 p (List.mem_filter.1 hp).1 (fun h => hne p hp h.symm) B hB hpB
  | const v =>
    simp only [takeO] at h
    split at h
    · rename_i hn
      injection h with h; subst h
      have hb : (a.eval (.const v)).ownBlock = none := by
        show v.ownBlock = none
        cases v with
        | slice ad l c => cases ad <;> simp_all [isNil, Value.ownBlock]
        | _ => simp_all [isNil]
      exact ⟨fun p hp => hp, own_none hb, fun B hB => by (rw [hb] at hB; cases hB), fun p hp B hB => by (rw [hb] at hB; cases hB), .inl fun B hB => by (rw [hb] at hB; cases hB)⟩
    · cases h
  | global g => cases h
  | func f => cases h

/-! ### A row that may be written, read as it stands -/
theorem chunk_len (g : Bool) (n : Nat) : ∀ (k : Nat) (cs : List AV), (chunk g n k cs).length = k := by
  intro k
  induction k with
  | zero => intro cs; rfl
  | succ k ih => intro cs; simp [chunk, ih]

theorem chunk_get (g : Bool) (n : Nat) : ∀ (k : Nat) (cs : List AV) (i : Nat), i < k → (chunk g n k cs)[i]? = some (if g = true then .agg ((cs.drop (i * n)).take n) else (cs.drop (i * n)).headD .un) := by
  intro k
  induction k with
  | zero => intro cs i h; omega
  | succ k ih =>
    intro cs i h
    cases i with
    | zero => simp [chunk]
    | succ i =>
      simp only [chunk, List.getElem?_cons_succ]
      rw [ih _ i (by omega), List.drop_drop, Nat.add_mul, Nat.one_mul, Nat.add_comm n]

theorem one_cells {c : AV} (h : c.one = true) : c.cells = [c] := by
  cases c <;> simp_all [AV.one, AV.cells]

theorem chunk_cells {g : Bool} {n k : Nat} {cs : List AV} (hg : g = true ∨ n = 1) (hle : k * n ≤ cs.length) (hone : ∀ c ∈ cs, c.one = true) {i : Nat} {e : AV} (he : (chunk g n k cs)[i]? = some e) :
    e.cells.length = n ∧ ∀ m, m < n → e.cells[m]? = cs[i * n + m]? := by
  have hi : i < k := by
    have := (List.getElem?_eq_some_iff.1 he).1
    rwa [chunk_len] at this
  have hin : i * n + n ≤ cs.length := by
    have : (i + 1) * n ≤ k * n := Nat.mul_le_mul_right n hi
    rw [Nat.add_mul, Nat.one_mul] at this
    omega
  rw [chunk_get g n k cs i hi] at he
  injection he with he
  cases g with
  | true =>
    simp only [if_true] at he
    subst he
    refine ⟨by simp [AV.cells]; omega, fun m hm => ?_⟩
    simp only [AV.cells]
    rw [List.getElem?_take, if_pos hm, List.getElem?_drop]
  | false =>
    have hn1 : n = 1 := by simpa using hg
    subst hn1
    have hlt : i < cs.length := by omega
    have hd : (cs.drop (i * 1)).headD .un = cs[i] := by
      rw [Nat.mul_one]
      cases hdr : cs.drop i with
      | nil => simp at hdr; omega
      | cons c l =>
        have : (cs.drop i)[0]? = some c := by rw [hdr]; rfl
        rw [List.getElem?_drop, Nat.add_zero, List.getElem?_eq_getElem hlt] at this
        injection this with this
        simp [this]
    rw [hd] at he
    simp only [Bool.false_eq_true, if_false] at he
    subst he
    rw [one_cells (hone _ (List.getElem_mem hlt))]
    refine ⟨rfl, fun m hm => ?_⟩
    have : m = 0 := by omega
    subst this
    simp [List.getElem?_eq_getElem hlt]

/-- The cells of a window of such a row. -/
theorem mr_row (hS : St P F L NX w H) {j off len n B : Nat} {g : Bool} {cs : List AV} (hB : L[j]? = some B) (hj : H[j]? = some cs) (hg : g = true ∨ n = 1) (hn0 : 0 < n) (hl0 : 0 < len)
    (hle : off + len * n ≤ cs.length) (hone : cs.all AV.one = true) :
    ∃ news : List Value, news.length = len * n ∧ (∀ i u, news[i]? = some u → w.cell? ⟨B, off + i, none⟩ = some u) ∧ (∀ u ∈ news, u.oneCell' = true) ∧ Row F L n (chunk g n len (cs.drop off)) news := by
  have hln : 0 < len * n := Nat.mul_pos hl0 hn0
  have hne : cs ≠ [] := fun e => by rw [e] at hle; simp at hle; omega
  obtain ⟨arr, t, h1, h2, h3, h4⟩ := hS.obj j cs B hj hne (plainRow_spec (plainRow_one hone)).1 hB
  have hone' : ∀ c ∈ cs, c.one = true := List.all_eq_true.1 hone
  have hal : ((arr.drop off).take (len * n)).length = len * n := by simp; omega
  have hget : ∀ i, i < len * n → ((arr.drop off).take (len * n))[i]? = some (arr.getD (off + i) undef) := by
    intro i hi
    rw [List.getElem?_take, if_pos hi, List.getElem?_drop]
    exact getD_get (by omega)
  refine ⟨(arr.drop off).take (len * n), hal, fun i u hu => ?_, fun u hu => ?_, ⟨by rw [hal, chunk_len], fun i e hi => ?_, fun i e k c hi hk => ?_⟩⟩
  · have hi : i < len * n := hal ▸ (List.getElem?_eq_some_iff.1 hu).1
    rw [hget i hi] at hu
    rw [cell?_eq h1, getD_get (by omega)]
    exact hu
  · obtain ⟨i, hi⟩ := List.mem_iff_getElem?.1 hu
    have hil : i < len * n := hal ▸ (List.getElem?_eq_some_iff.1 hi).1
    rw [hget i hil] at hi
    injection hi with hi
    subst hi
    have hlt : off + i < cs.length := by omega
    exact (h4 (off + i) _ (List.getElem?_eq_getElem hlt)).one (hone' _ (List.getElem_mem hlt))
  · exact (chunk_cells hg (by simp; omega) (fun c hc => hone' c (List.mem_of_mem_drop hc)) hi).1
  · obtain ⟨h5, h6⟩ := chunk_cells (k := len) hg (by simp; omega) (fun c hc => hone' c (List.mem_of_mem_drop hc)) hi
    have hkn : k < n := h5 ▸ (List.getElem?_eq_some_iff.1 hk).1
    have hil : i < len := by
      have := (List.getElem?_eq_some_iff.1 hi).1
      rwa [chunk_len] at this
    rw [h6 k hkn, List.getElem?_drop] at hk
    rw [List.getD_eq_getElem?_getD, hget _ (idx_lt hil hkn)]
    exact h4 _ c hk

/-- What is laid behind a row, wherever it stands. -/
theorem view_src (hS : St P F L NX w H) {tx e' : TypeId} (hu : P.underlying tx = some (.slice e')) {xy : AV} {v : Value} (hy : Rel F L xy v) {ys : List AV} {n : Nat} (hn0 : 0 < n) (hv : viewR P H tx xy = .sl ys) (hn : ∀ a ∈ ys, a.cells.length = n) :
    ∃ news, Src P n tx v ys.length news w ∧ Row F L n ys news := by
  have plain : Rel F L (.sl ys) v → ∃ news, Src P n tx v ys.length news w ∧ Row F L n ys news := by
    intro hy
    obtain ⟨ad, cap, vs, hv, hcap, hnone, hrow, hone, hF⟩ := hy.row hS hn
    refine ⟨vs, ?_, hrow⟩
    rw [hv]
    rcases Nat.eq_zero_or_pos ys.length with h0 | h0
    · have hvs : vs = [] := List.eq_nil_of_length_eq_zero (by rw [hrow.len, h0, Nat.zero_mul])
      subst hvs
      rw [h0]
      cases ad with
      | none => exact Src.ofNil w hu cap
      | some ad => exact Src.ofSlice w hu ad 0 cap [] (by simp) (by simp) (by simp)
    · obtain ⟨B, of, rfl, hf⟩ := hF (by
        intro hv0
        have := hrow.len
        rw [hv0] at this
        have h2 : 0 < ys.length * n := Nat.mul_pos h0 hn0
        simp at this
        omega)
      exact Src.ofSlice w hu _ _ _ vs hrow.len (fun j u hu => by rw [add_at]; exact (hS.mem _ _ _ (hf j u hu)).1) hone
  cases xy with
  | mr j off len n' g =>
    simp only [viewR] at hv
    split at hv
    · rename_i e cs he hj
      split at hv
      · rename_i hc
        obtain ⟨c1, c2, c3, c4, c5, c6⟩ := hc
        injection hv with hv
        cases hy with
        | mr _ _ _ _ cap B _ hB hcap hn' hroom hx =>
          obtain ⟨news, k1, k2, k3, k4⟩ := mr_row hS hB hj c3 hn' c4 c5 c6
          have hnn : n' = n := by
            have h0 : 0 < (chunk g n' len (cs.drop off)).length := by rw [chunk_len]; exact c4
            have e1 := k4.each 0 _ (List.getElem?_eq_getElem h0)
            have e2 := hn (chunk g n' len (cs.drop off))[0] (by rw [← hv]; exact List.getElem_mem h0)
            omega
          subst hnn
          have hyl : ys.length = len := by rw [← hv, chunk_len]
          rw [hyl, ← hv]
          exact ⟨news, Src.ofSlice w hu ⟨B, off, none⟩ len cap news k1 (fun i u hi => by rw [add_at]; exact k2 i u hi) k3, k4⟩
      · cases hv
    · cases hv
  | sl xs => simp only [viewR] at hv; injection hv with hv; subst hv; exact plain hy
  | ow xs j => simp only [viewR] at hv; injection hv with hv; subst hv; exact plain hy.owA
  | v x =>
    have hx : x = .slice none 0 0 ∧ ys = [] := by
      simp only [viewR] at hv
      split at hv
      · rename_i hn; injection hv with hv; exact ⟨isNilV_spec hn, hv.symm⟩
      · cases hv
    obtain ⟨rfl, rfl⟩ := hx
    obtain ⟨hv', _⟩ := hy.v_eq
    refine plain ?_
    rw [← hv']
    exact .sl0 none 0 (fun _ => rfl)
  | _ => simp only [viewR] at hv; cases hv

theorem append_ok (hI : Inv P G F0 L0 w0 N O e H F L a w) (hA : AliasOK A a) {o : Oper} {b y : Operand} {t tx : TypeId} {r : AV} {H' : Heap} (hop : o.op = .call { callee := .builtin .append, args := #[b, y], argTypes := #[t, tx] })
    (h : opA P e H o.op = some (r, H')) (hd : ∀ d', o.dst = some d' → d' < N) {n : Nat} (hn : elemSz P t = some n) (ht : takeO O A n b = some O')
    {next : Act → World → Prop} {Q : Exit → Act → World → Prop}
    (hnx : ∀ F' L' u w', Inv P G F0 L0 w0 N (addO o.dst 0 n (killO o.dst O')) (put e o.dst r) H' F' L' (a.put o.dst u) w' → AliasOK (killA o.dst A) (a.put o.dst u) → next (a.put o.dst u) w') : o.wp P a w next Q := by
  obtain ⟨t1, t2, t3, t4, t5⟩ := take_ok hI hA ht
  have hx := hI.ev b
  have hy := hI.ev y
  rw [hop] at h
  simp only [opA] at h
  obtain ⟨r', hr', he⟩ := Option.map_eq_some_iff.1 h
  injection he with e1 e2
  subst e1 e2
  obtain ⟨el, hel, hszn⟩ := Option.bind_eq_some_iff.1 hn
  have hun : P.underlying t = some (.slice el) := by
    unfold elemOfT at hel
    split at hel
    · injection hel with hel; subst hel; assumption
    · cases hel
  -- what is laid behind, and the run
  have main : ∃ u w' F', (Builtin.append_ #[t, tx] o.type #[a.eval b, a.eval y]).run P w = .ok u w' ∧ Rel F' L r' u ∧ St P F' L NX w' H ∧ Goes (fun B => (a.eval b).ownBlock = some B) F L w F' L w' ∧ Own F' L NX w' n u ∧
      (∀ B, u.ownBlock = some B → (a.eval b).ownBlock = some B ∨ w.heap.size ≤ B) := by
    generalize ev e b = xb at hx hr'
    generalize ev e y = xy at hy hr'
    generalize hv : viewR P H tx xy = yy at hr'
    unfold builtinA at hr'
    split at hr'
    · rename_i h1; simp at h1
    · rename_i h1; simp at h1
    · rename_i h1; simp at h1
    · exact absurd ‹Builtin.append = Builtin.min› (by simp)
    · exact absurd ‹Builtin.append = Builtin.max› (by simp)
    · rename_i t' u' xs ys h1 h2 h3
      simp at h2 h3
      obtain ⟨rfl, rfl⟩ := h2
      obtain ⟨rfl, rfl⟩ := h3
      split at hr'
      · rename_i el' eu hu1 hu2
        rw [hun] at hu1
        injection hu1 with hu1; injection hu1 with hu1; subst hu1
        split at hr'
        · rename_i n' by_ z hn' hby hz
          rw [hszn] at hn'
          injection hn' with hn'; subst hn'
          split at hr'
          · rename_i hc
            obtain ⟨c1, c2, c3, c4, c5⟩ := hc
            injection hr' with hr'; subst hr'
            obtain ⟨vs, hsrc, hrow⟩ := view_src hI.st hu2 hy c1 hv c5
            exact append_run hI.st hun hszn hby hz c2 c1 hx c4 t2 hsrc hrow rfl c3
          · cases hr'
        · cases hr'
      · cases hr'
    · rename_i t' u' xs s h1 h2 h3
      simp at h2 h3
      obtain ⟨rfl, rfl⟩ := h2
      obtain ⟨rfl, rfl⟩ := h3
      split at hr'
      · rename_i el' hu1 hu2
        rw [hun] at hu1
        injection hu1 with hu1; injection hu1 with hu1; subst hu1
        split at hr'
        · rename_i z0 hn' hby hz
          rw [hszn] at hn'
          injection hn' with hn'; subst hn'
          split at hr'
          · rename_i hc
            obtain ⟨c1, c2⟩ := hc
            injection hr' with hr'; subst hr'
            have hxy : xy = .v (.string s) := by
              cases xy with
              | mr j off len n' g =>
                simp only [viewR] at hv
                split at hv
                · split at hv <;> cases hv
                · cases hv
              | v x =>
                simp only [viewR] at hv
                split at hv
                · cases hv
                · exact hv
              | _ => first | (simp only [viewR] at hv; cases hv; done) | (simp only [viewR] at hv; exact hv)
            subst hxy
            obtain ⟨hyv, _⟩ := hy.v_eq
            have hrow : Row F L 1 (s.data.toList.map byteA) (byteCells s) := by
              refine ⟨by simp [byteCells], fun i b hb => ?_, fun i b k c hb hk => ?_⟩
              · rw [List.getElem?_map] at hb
                obtain ⟨c, _, rfl⟩ := Option.map_eq_some_iff.1 hb
                rfl
              · rw [List.getElem?_map] at hb
                obtain ⟨c', hc', rfl⟩ := Option.map_eq_some_iff.1 hb
                have hk0 : k = 0 := by
                  have := (List.getElem?_eq_some_iff.1 hk).1
                  simp [byteA, AV.cells] at this
                  exact this
                subst hk0
                simp [byteA, AV.cells] at hk
                subst hk
                rw [Nat.mul_one, Nat.add_zero, List.getD_eq_getElem?_getD, byteCells, List.getElem?_map, hc']
                exact .sc _ rfl
            have hlen : (s.data.toList.map byteA).length = s.size := by simp
            rw [← hyv]
            exact append_run hI.st hun hszn hby hz rfl (by omega) hx c2 t2 (Src.ofString w hu2 s) hrow hlen (by omega)
          · cases hr'
        · cases hr'
      · cases hr'
    · cases hr'
  obtain ⟨u, w', F', h1, h2, h3, h4, h5, h6⟩ := main
  have hrun : (execOp a.eval o).run P w = .ok (.value u) w' := by
    unfold execOp
    simp only [hop, resolve, invoke, builtin, Sem.run_bind, Sem.run_pure, Result.andThen_ok, List.map_toArray, List.map_cons, List.map_nil, h1]
  unfold Oper.wp
  rw [hrun]
  refine hnx F' L _ w' ?_ (hA.kill (fun d' he => Nat.lt_of_lt_of_le (hd d' he) hI.size) u)
  have hst := fun new hnew => hI.step (O1 := O') (new := new) (u := u) (r := r') hd h3 h4 h2 (fun B hB hg => (t3 B hg).elim id (fun h => by omega)) t1 (fun p hp B hB hg => t4 p hp B hg hB) hnew
  have hf : ∀ B, u.ownBlock = some B → G B ∨ w0.heap.size ≤ B := fun B hB => by
    rcases h6 B hB with hh | hh
    · exact t3 B hh
    · exact .inr (by have := hI.goes.size; omega)
  cases hdst : o.dst with
  | none =>
    have := hst [] (by simp) (by simp) (by simp)
    simpa [addO, hdst] using this
  | some d =>
    have := hst [(d, 0, n)] (by
      intro p hp
      simp at hp
      subst hp
      exact ⟨hdst, h5, h6⟩) (by
      intro p hp
      simp at hp
      subst hp
      exact hf) (by
      intro p hp q hq hne
      simp at hp hq
      subst hp hq
      exact absurd rfl hne)
    simpa [addO, hdst] using this
end
end Go.Lv
