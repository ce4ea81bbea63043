import Derived.Test.YticlhjamafdmfaaLvD
set_option linter.unusedVariables false
set_option linter.unusedSimpArgs false
namespace Go.Lv
section
variable {P : Program} {F : Facts} {L : List Nat} {w : World} {X : Nat → Prop} {H : Heap}

theorem add_at (B o k : Nat) : (⟨B, o, none⟩ : Addr).add k = ⟨B, o + k, none⟩ := Addr.add_mid B o k

theorem fieldAddrA_run {t : TypeId} {p r : AV} {v : Value} {f : Nat} (hp : Rel F L p v) (h : fieldAddrA P t p f = some r) : ∃ u, (Instr.fieldAt t v f).run P w = .ok u w ∧ Rel F L r u := by
  unfold fieldAddrA at h
  split at h
  · rename_i fs hu
    obtain ⟨fd, hfd, h⟩ := Option.bind_eq_some_iff.1 h
    obtain ⟨n, hn, h⟩ := Option.bind_eq_some_iff.1 h
    split at h
    · cases h
    · rename_i hn0
      split at h
      · cases hp
        rename_i B hB
        injection h with h; subst h
        exact ⟨_, by simp [Instr.fieldAt, run_underlying hu, hfd, Instr.sureAddr, fieldPlace, sizeT_run hn, hn0, add_at], .ptr _ _ _ hB⟩
      · cases hp
        rename_i B a vals hf hr
        injection h with h; subst h
        exact ⟨_, by simp [Instr.fieldAt, run_underlying hu, hfd, Instr.sureAddr, fieldPlace, sizeT_run hn, hn0, add_at, Nat.add_assoc], .ea _ _ _ _ vals hf hr⟩
      · cases h
  · cases h

theorem fieldA_run {t : TypeId} {p r : AV} {v : Value} {f : Nat} (hp : Rel F L p v) (h : fieldA P t p f = some r) : ∃ u, (Instr.field t v f).run P w = .ok u w ∧ Rel F L r u := by
  unfold fieldA at h
  split at h
  · rename_i fs cs hu
    obtain ⟨fd, hfd, h⟩ := Option.bind_eq_some_iff.1 h
    cases hp
    rename_i arr hl hr
    obtain ⟨u, h1, h2⟩ := part_run (P := P) (w := w) hl hr h
    exact ⟨u, by simp [Instr.field, run_underlying hu, hfd, asAgg, h1], h2⟩
  · cases h

theorem idx_some {n k : Nat} {i : Int} (h : idx n i = some k) : 0 ≤ i ∧ i < n ∧ i.toNat = k ∧ k < n := by
  unfold idx at h
  split at h
  · injection h with h; omega
  · cases h

theorem indexAddrA_run {t : TypeId} {p i r : AV} {v j : Value} (hp : Rel F L p v) (hi : Rel F L i j) (h : indexAddrA P t p i = some r) : ∃ u, (Instr.indexAt t v j).run P w = .ok u w ∧ Rel F L r u := by
  unfold indexAddrA at h
  split at h
  · rename_i e xs k i' hu
    obtain ⟨rfl, _⟩ := hi.v_eq
    obtain ⟨n, hn, h⟩ := Option.bind_eq_some_iff.1 h
    obtain ⟨a, ha, h⟩ := Option.bind_eq_some_iff.1 h
    obtain ⟨h1, h2, h3, h4⟩ := idx_some hn
    split at h
    · rename_i hsz
      injection h with h; subst h
      cases hp with
      | sl0 => simp at h4
      | sl xs B o len cap sz vals hl h0 hc hs hnn hf hr =>
        have hlt : n < len := hl ▸ h4
        have hsa := hnn n a ha
        refine ⟨.pointer (some ⟨B, o + n * sz + 0, none⟩), ?_, .ea a 0 B (o + n * sz) (vals n) (fun k hk => hf n k hlt (hsa ▸ hk)) (fun k c hk => hr n a k c ha hk)⟩
        have hsr := sizeT_run (w := w) hsz
        rw [hsa] at hsr
        simp [Instr.indexAt, asIntOf, run_underlying hu, h1, show i' < (len : Int) by omega, hsr, add_at, h3]
    · cases h
  · rename_i e j' off len n' g k i' hu
    obtain ⟨rfl, _⟩ := hi.v_eq
    obtain ⟨n, hn, h⟩ := Option.bind_eq_some_iff.1 h
    obtain ⟨h1, h2, h3, h4⟩ := idx_some hn
    split at h
    · rename_i hsz
      injection h with h; subst h
      cases hp with
      | mr _ _ _ _ cap B _ hB hc hn hr hx =>
        refine ⟨_, ?_, .ptr _ _ _ hB⟩
        simp [Instr.indexAt, asIntOf, run_underlying hu, h1, h2, sizeT_run hsz, add_at, h3]
    · cases h
  · rename_i ln e j' off k i' hu
    obtain ⟨rfl, _⟩ := hi.v_eq
    obtain ⟨n, hn, h⟩ := Option.bind_eq_some_iff.1 h
    obtain ⟨sz, hsz, rfl⟩ := Option.map_eq_some_iff.1 h
    obtain ⟨h1, h2, h3, h4⟩ := idx_some hn
    cases hp
    rename_i B hB
    refine ⟨_, ?_, .ptr _ _ _ hB⟩
    simp [Instr.indexAt, asIntOf, run_underlying hu, Instr.sureAddr, h1, h2, sizeT_run hsz, add_at, h3]
  · rename_i ln e a off k i' hu
    obtain ⟨rfl, _⟩ := hi.v_eq
    obtain ⟨n, hn, h⟩ := Option.bind_eq_some_iff.1 h
    obtain ⟨sz, hsz, rfl⟩ := Option.map_eq_some_iff.1 h
    obtain ⟨h1, h2, h3, h4⟩ := idx_some hn
    cases hp
    rename_i B a' vals hf hr
    refine ⟨_, ?_, .ea _ _ _ _ vals hf hr⟩
    simp [Instr.indexAt, asIntOf, run_underlying hu, Instr.sureAddr, h1, h2, sizeT_run hsz, add_at, h3, Nat.add_assoc]
  · cases h

theorem indexA_run {t : TypeId} {p i r : AV} {v j : Value} (hp : Rel F L p v) (hi : Rel F L i j) (h : indexA P t p i = some r) : ∃ u, (Instr.index t v j).run P w = .ok u w ∧ Rel F L r u := by
  unfold indexA at h
  split at h
  · rename_i s k i' hu
    obtain ⟨rfl, _⟩ := hi.v_eq
    obtain ⟨rfl, _⟩ := hp.v_eq
    obtain ⟨n, hn, h⟩ := Option.bind_eq_some_iff.1 h
    obtain ⟨b, hb, rfl⟩ := Option.map_eq_some_iff.1 h
    obtain ⟨h1, h2, h3, h4⟩ := idx_some hn
    refine ⟨.int .u8 b.toNat, ?_, .sc _ rfl⟩
    have hb' : s[n]? = some b := by
      rw [getElem?_pos s n h4]
      rw [getElem?_pos s.data n h4] at hb
      exact hb
    simp [Instr.index, asIntOf, run_underlying hu, h1, h3, hb']
  · rename_i ln e cs k i' hu
    obtain ⟨rfl, _⟩ := hi.v_eq
    obtain ⟨n, hn, h⟩ := Option.bind_eq_some_iff.1 h
    obtain ⟨sz, hsz, h⟩ := Option.bind_eq_some_iff.1 h
    obtain ⟨h1, h2, h3, h4⟩ := idx_some hn
    cases hp
    rename_i arr hl hr
    obtain ⟨u, hu1, hu2⟩ := part_run (P := P) (w := w) hl hr h
    exact ⟨u, by simp [Instr.index, asIntOf, run_underlying hu, h1, h2, sizeT_run hsz, h3, hu1], hu2⟩
  · cases h

/-! ### Slices -/
def bnd (v : Option Value) (m : Nat) (code : BoundsCode) (d : Nat) : Sem Nat := match v with | some x => Instr.sliceBound x m code | none => pure d
theorem bound_run {n m d k : Nat} {lo : Option AV} {v : Option Value} {code : BoundsCode} (hlo : ∀ a, lo = some a → ∃ x, v = some x ∧ Rel F L a x) (hno : lo = none → v = none) (h : bound n lo d = some k) (hnm : n ≤ m) :
    (bnd v m code d).run P w = .ok k w ∧ (lo = none → k = d) ∧ (lo ≠ none → k ≤ n) := by
  unfold bound at h
  split at h
  · injection h with h; subst h
    rw [hno rfl]
    exact ⟨by simp [bnd], fun _ => rfl, fun h => absurd rfl h⟩
  · rename_i kk i
    obtain ⟨x, rfl, hr⟩ := hlo _ rfl
    obtain ⟨rfl, _⟩ := hr.v_eq
    split at h
    · rename_i hi
      injection h with h; subst h
      have : i ≤ (m : Int) := by omega
      exact ⟨by simp [bnd, Instr.sliceBound, asIntOf, hi.1, this], fun h => (by cases h), fun _ => (by omega)⟩
    · cases h
  · cases h

theorem optRel {ρ : Operand → Value} {e : Env} (hT : ∀ x, Rel F L (ev e x) (ρ x)) (lo : Option Operand) : (∀ a, lo.map (ev e) = some a → ∃ x, lo.map ρ = some x ∧ Rel F L a x) ∧ (lo.map (ev e) = none → lo.map ρ = none) := by
  cases lo with
  | none => simp
  | some x => simp; exact hT x

theorem sliceA_run {ρ : Operand → Value} {e : Env} (hT : ∀ x, Rel F L (ev e x) (ρ x)) {t : TypeId} {p r : AV} {v : Value} {lo hi mx : Option Operand} (hp : Rel F L p v) (h : sliceA P t p (lo.map (ev e)) (hi.map (ev e)) (mx.map (ev e)) = some r) :
    ∃ u, (Instr.sliceAt t v (lo.map ρ) (hi.map ρ) (mx.map ρ)).run P w = .ok u w ∧ Rel F L r u := by
  unfold sliceA at h
  obtain ⟨lo1, lo2⟩ := optRel hT lo
  obtain ⟨hi1, hi2⟩ := optRel hT hi
  have hmx : mx.map (ev e) = none → mx.map ρ = none := (optRel hT mx).2
  generalize lo.map (ev e) = lo' at *
  generalize hi.map (ev e) = hi' at *
  generalize mx.map (ev e) = mx' at *
  generalize lo.map ρ = vlo at *
  generalize hi.map ρ = vhi at *
  generalize mx.map ρ = vmx at *
  split at h
  · rename_i s hu
    obtain ⟨rfl, _⟩ := hp.v_eq
    obtain ⟨b, hb, h⟩ := Option.bind_eq_some_iff.1 h
    obtain ⟨a, ha, h⟩ := Option.bind_eq_some_iff.1 h
    injection h with h; subst h
    obtain ⟨r1, r2, r3⟩ := bound_run (P := P) (w := w) (code := .sliceAlen) hi1 hi2 hb (Nat.le_refl _)
    obtain ⟨q1, q2, q3⟩ := bound_run (P := P) (w := w) (code := .sliceB) lo1 lo2 ha (Nat.le_refl _)
    rw [hmx rfl]
    refine ⟨.string (s.extract a b), ?_, .sc _ rfl⟩
    have hb' : (Instr.sliceBounds false s.size s.size vlo vhi none).run P w = .ok (a, b, s.size) w := by
      unfold Instr.sliceBounds
      cases vhi <;> cases vlo <;> simp_all [bnd]
    simp [Instr.sliceAt, Instr.slice, run_underlying hu, hb']
  · rename_i el xs hu
    obtain ⟨n, hn, h⟩ := Option.bind_eq_some_iff.1 h
    split at h
    · rename_i hall
      obtain ⟨b, hb, h⟩ := Option.bind_eq_some_iff.1 h
      obtain ⟨a, ha, h⟩ := Option.bind_eq_some_iff.1 h
      injection h with h; subst h
      rw [hmx rfl]
      have main : ∀ (A : Option Addr) (len cap : Nat), v = .slice A len cap → xs.length = len → len ≤ cap →
          ∃ u, (Instr.sliceAt t v vlo vhi none).run P w = .ok u w ∧ u = .slice (if cap = a then A else A.map (·.add (a * n))) (b - a) (cap - a) ∧ a ≤ b ∧ b ≤ len := by
        rintro A len cap rfl hl hc
        obtain ⟨r1, r2, r3⟩ := bound_run (P := P) (w := w) (m := cap) (code := .sliceAcap) hi1 hi2 hb (by omega)
        obtain ⟨q1, q2, q3⟩ := bound_run (P := P) (w := w) (code := .sliceB) lo1 lo2 ha (Nat.le_refl _)
        have hb' : (Instr.sliceBounds true len cap vlo vhi none).run P w = .ok (a, b, cap) w := by
          unfold Instr.sliceBounds
          cases vhi <;> cases vlo <;> simp_all [bnd]
        refine ⟨_, by simp [Instr.sliceAt, Instr.slice, run_underlying hu, hb', sizeT_run hn], rfl, ?_, ?_⟩
        · rcases Classical.em (lo' = none) with e | e
          · have := q2 e; omega
          · exact q3 e
        · rcases Classical.em (hi' = none) with e | e
          · have := r2 e; omega
          · have := r3 e; omega
      cases hp with
      | sl0 A cap hA =>
        obtain ⟨u, h1, rfl, h2, h3⟩ := main A 0 cap rfl rfl (Nat.zero_le _)
        refine ⟨_, h1, ?_⟩
        have hb0 : b = 0 := by omega
        have ha0 : a = 0 := by omega
        subst hb0 ha0
        simp only [List.take_nil, List.drop_nil, Nat.sub_self]
        exact .sl0 _ _ (fun hn => by
          split at hn
          · rw [hA hn]
          · rw [hA (by simpa using hn)])
      | sl xs B o len cap sz vals hl h0 hc hs hnn hf hr =>
        obtain ⟨u, h1, rfl, h2, h3⟩ := main _ len cap rfl hl hc
        refine ⟨_, h1, ?_⟩
        have hszn : sz = n := by
          have h0' : 0 < xs.length := by omega
          have e1 := hnn 0 _ (List.getElem?_eq_getElem h0')
          have e2 := hall.2 _ (List.getElem_mem h0')
          omega
        subst hszn
        rcases Nat.eq_or_lt_of_le h2 with he | hlt
        · subst he
          have : (xs.take a).drop a = [] := List.drop_of_length_le (by simp; omega)
          rw [this, Nat.sub_self]
          exact .sl0 _ _ (fun hn => by split at hn <;> simp at hn)
        · rw [if_neg (by omega)]
          simp only [Option.map_some, add_at]
          have hget : ∀ (i : Nat) e, ((xs.take b).drop a)[i]? = some e → xs[a + i]? = some e := by
            intro i e hi
            rw [List.getElem?_drop, List.getElem?_take] at hi
            split at hi
            · exact hi
            · cases hi
          refine .sl _ B (o + a * sz) (b - a) (cap - a) sz (fun i k => vals (a + i) k) (by simp; omega) (by omega) (by omega) hs (fun i e hi => hnn _ e (hget i e hi)) (fun i k hi hk => ?_) (fun i e k c hi hk => hr _ e k c (hget i e hi) hk)
          have := hf (a + i) k (by omega) hk
          rwa [Nat.add_mul, ← Nat.add_assoc] at this
    · cases h
  · rename_i el x hu
    split at h
    rotate_left
    · cases h
    rename_i hnil
    have hx := isNilV_spec hnil
    subst hx
    obtain ⟨n, hn, h⟩ := Option.bind_eq_some_iff.1 h
    obtain ⟨b, hb, h⟩ := Option.bind_eq_some_iff.1 h
    obtain ⟨a, ha, h⟩ := Option.bind_eq_some_iff.1 h
    injection h with h; subst h
    rw [hmx rfl]
    obtain ⟨hv, _⟩ := hp.v_eq
    obtain ⟨r1, r2, r3⟩ := bound_run (P := P) (w := w) (m := 0) (code := .sliceAcap) hi1 hi2 hb (by omega)
    obtain ⟨q1, q2, q3⟩ := bound_run (P := P) (w := w) (code := .sliceB) lo1 lo2 ha (Nat.le_refl _)
    have hb' : (Instr.sliceBounds true 0 0 vlo vhi none).run P w = .ok (a, b, 0) w := by
      unfold Instr.sliceBounds
      cases vhi <;> cases vlo <;> simp_all [bnd]
    have h3 : b ≤ 0 := by
      rcases Classical.em (hi' = none) with e | e
      · have := r2 e; omega
      · have := r3 e; omega
    have h2 : a ≤ b := by
      rcases Classical.em (lo' = none) with e | e
      · have := q2 e; omega
      · exact q3 e
    have ha0 : a = 0 := by omega
    have hb0 : b = 0 := by omega
    subst ha0 hb0
    refine ⟨.slice none 0 0, by simp [Instr.sliceAt, Instr.slice, ← hv, run_underlying hu, hb', sizeT_run hn], .sc _ rfl⟩
  · rename_i el j off len n g hu
    split at h
    · rename_i hn
      obtain ⟨b, hb, h⟩ := Option.bind_eq_some_iff.1 h
      obtain ⟨a, ha, h⟩ := Option.bind_eq_some_iff.1 h
      injection h with h
      rw [hmx rfl]
      cases hp with
      | mr _ _ _ _ cap B _ hB hc hn0 hr hx =>
        obtain ⟨r1, r2, r3⟩ := bound_run (P := P) (w := w) (m := cap) (code := .sliceAcap) hi1 hi2 hb (by omega)
        obtain ⟨q1, q2, q3⟩ := bound_run (P := P) (w := w) (code := .sliceB) lo1 lo2 ha (Nat.le_refl _)
        have hb' : (Instr.sliceBounds true len cap vlo vhi none).run P w = .ok (a, b, cap) w := by
          unfold Instr.sliceBounds
          cases vhi <;> cases vlo <;> simp_all [bnd]
        have h2 : a ≤ b := by
          rcases Classical.em (lo' = none) with e | e
          · have := q2 e; omega
          · exact q3 e
        have h3 : b ≤ len := by
          rcases Classical.em (hi' = none) with e | e
          · have := r2 e; omega
          · have := r3 e; omega
        refine ⟨.slice (if cap = a then some ⟨B, off, none⟩ else (some ⟨B, off, none⟩ : Option Addr).map (·.add (a * n))) (b - a) (cap - a), by simp [Instr.sliceAt, Instr.slice, run_underlying hu, hb', sizeT_run hn], ?_⟩
        rw [← h]
        have hroom : off + a * n + (cap - a) * n ≤ F.room B := by
          have : a * n + (cap - a) * n = cap * n := by rw [← Nat.add_mul]; congr 1; omega
          omega
        by_cases hab : a < b
        · rw [if_pos (.inl hab), if_neg (by omega)]
          simp only [Option.map_some, add_at]
          exact .mr _ _ _ _ _ _ _ hB (by omega) hn0 hroom (by omega)
        · have hbb : b - a = 0 := by omega
          by_cases ha0 : a = 0
          · subst ha0
            rw [if_pos (.inr rfl), hbb]
            have he : (if cap = 0 then some (⟨B, off, none⟩ : Addr) else (some ⟨B, off, none⟩ : Option Addr).map (·.add (0 * n))) = some ⟨B, off + 0 * n, none⟩ := by
              split <;> simp [add_at]
            rw [he]
            exact .mr _ _ _ _ _ _ _ hB (by omega) hn0 hroom (by omega)
          · rw [if_neg (by omega), hbb]
            exact .sl0 _ _ (fun hn => by split at hn <;> simp at hn)
    · cases h
  · cases h
end
end Go.Lv
