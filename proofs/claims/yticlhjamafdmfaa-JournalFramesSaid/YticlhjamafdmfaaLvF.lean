import Derived.Test.YticlhjamafdmfaaLvE
set_option linter.unusedVariables false
set_option linter.unusedSimpArgs false
namespace Go.Lv
section
variable {P : Program} {F : Facts} {L : List Nat} {w : World} {X : Nat → Prop} {H : Heap}

/-! ### Conversions -/
theorem byteOfA_some {a : AV} {b : UInt8} (h : byteOfA a = some b) : ∃ n : Int, a = .v (.int .u8 n) ∧ b = UInt8.ofNat n.toNat := by
  unfold byteOfA at h
  split at h
  · rename_i n; injection h with h; exact ⟨n, rfl, h.symm⟩
  · cases h

theorem mapM_bytes : ∀ (xs : List AV) (l : List UInt8), xs.mapM byteOfA = some l → ∃ ns : List Int, xs = ns.map (fun n => AV.v (.int .u8 n)) ∧ l = ns.map (fun n => UInt8.ofNat n.toNat) := by
  intro xs
  induction xs with
  | nil => intro l h; simp at h; subst h; exact ⟨[], rfl, rfl⟩
  | cons x xs ih =>
    intro l h
    rw [List.mapM_cons] at h
    obtain ⟨b, hb, h⟩ := Option.bind_eq_some_iff.1 h
    obtain ⟨l', hl', h⟩ := Option.bind_eq_some_iff.1 h
    injection h with h; subst h
    obtain ⟨ns, rfl, rfl⟩ := ih _ hl'
    obtain ⟨n, rfl, rfl⟩ := byteOfA_some hb
    exact ⟨n :: ns, rfl, rfl⟩

theorem bytesOfA_some {xs : List AV} {s : ByteArray} (h : bytesOfA xs = some s) : ∃ ns : List Int, xs = ns.map (fun n => AV.v (.int .u8 n)) ∧ s = strOfNums ns := by
  unfold bytesOfA at h
  obtain ⟨l, hl, rfl⟩ := Option.map_eq_some_iff.1 h
  obtain ⟨ns, h1, rfl⟩ := mapM_bytes xs l hl
  exact ⟨ns, h1, rfl⟩

theorem byteAt {vals : Value} {n : Int} (h : Rel F L (.v (.int .u8 n)) vals) : vals = .int .u8 n := by
  obtain ⟨h1, _⟩ := h.v_eq
  exact h1.symm

theorem conv_same_run (hS : St P F L X w H) {s d : TypeId} {a r : AV} {v : Value} (ha : Rel F L a v) (h : conv P s d a = some r) (hb : ∀ x, a ≠ .v (.string x) ∨ ∀ e, P.underlying d ≠ some (.slice e)) :
    ∃ u, (convert s d v).run P w = .ok u w ∧ Rel F L r u := by
  unfold conv at h
  split at h
  · rename_i h1 h2
    obtain ⟨rfl, _⟩ := ha.v_eq
    injection h with h; subst h
    refine ⟨_, ?_, .sc _ rfl⟩
    unfold convert
    simp only [Sem.run_bind, run_underlying h1, run_underlying h2, Result.andThen_ok]
    simp [Conv.intToInt]
  · rename_i h1 h2
    obtain ⟨rfl, _⟩ := ha.v_eq
    injection h with h; subst h
    refine ⟨_, ?_, .sc _ rfl⟩
    unfold convert
    simp only [Sem.run_bind, run_underlying h1, run_underlying h2, Result.andThen_ok]
    simp
  · rename_i e xs h1 h2
    split at h
    · rename_i he
      obtain ⟨str, hstr, rfl⟩ := Option.map_eq_some_iff.1 h
      obtain ⟨ns, hns, rfl⟩ := bytesOfA_some hstr
      cases ha with
      | sl0 A cap hA =>
        have : ns = [] := by simpa using hns.symm
        subst this
        cases A with
        | none => exact ⟨_, run_convert_bytes_nil w s e h1 he 0 cap d h2, .sc _ rfl⟩
        | some A =>
          refine ⟨.string (strOfNums []), ?_, .sc _ rfl⟩
          rw [run_convert_bytes_string w s d e _ 0 cap h1 he h2]
          simp [Conv.bytesToString, loadCells, loadCellsFrom, strOfNums]
          rfl
      | sl xs B o len cap sz vals hl h0 hc hs hnn hf hr =>
        subst hns
        refine ⟨_, run_convert_bytes_arg w s e h1 he B o len cap ns (by simpa using hl) (fun i hi => ?_) d h2, .sc _ rfl⟩
        have hil : i < ns.length := by simp at hl; omega
        have hget : (ns.map (fun n => AV.v (.int .u8 n)))[i]? = some (.v (.int .u8 ns[i])) := by simp [hil]
        have hsz := hnn _ _ hget
        simp only [AV.cells, List.length_singleton] at hsz
        subst hsz
        have hv := byteAt (hr i _ 0 _ hget rfl)
        have := (hS.mem _ _ _ (hf i 0 hi (by omega))).1
        rw [hv] at this
        simpa [hil] using this
    · cases h
  · rename_i e x h1 h2
    rcases hb x with h' | h'
    · exact absurd rfl h'
    · exact absurd h2 (h' e)
  · cases h

/-! ### Literals -/
theorem fold_put (off : Nat) : ∀ (v : List Value) (k : Nat) (cs : Array Value), off + k + v.length ≤ cs.size →
    ((v.zipIdx k).foldl (fun (cs : Array Value) (c : Value × Nat) => cs.setIfInBounds (off + c.2) c.1) cs).toList = cs.toList.take (off + k) ++ v ++ cs.toList.drop (off + k + v.length) := by
  intro v
  induction v with
  | nil => intro k cs h; simp
  | cons c v ih =>
    intro k cs h
    simp only [List.length_cons] at h
    simp only [List.zipIdx_cons, List.foldl_cons]
    rw [ih (k + 1) _ (by simp; omega)]
    have hlt : off + k < cs.toList.length := by simp; omega
    simp only [Array.toList_setIfInBounds, List.length_cons]
    rw [List.drop_set_of_lt (by omega), show off + (k + 1) = off + k + 1 by omega, List.take_set, List.take_add_one, List.getElem?_eq_getElem hlt]
    simp only [Option.toList_some]
    rw [List.set_append_right _ _ (by simp; omega), show off + k - (cs.toList.take (off + k)).length = 0 by simp; omega]
    simp only [List.set_cons_zero, List.append_assoc, List.cons_append, List.nil_append]
    rw [show off + k + 1 + v.length = off + k + (v.length + 1) by omega]

/-- Parts that are told alike. -/
def PartsRel (F : Facts) (L : List Nat) (ps : List (Nat × AV)) (qs : List (Nat × Value)) : Prop :=
  ps.length = qs.length ∧ ∀ (k : Nat) p q, ps[k]? = some p → qs[k]? = some q → p.1 = q.1 ∧ Rel F L p.2 q.2

theorem PartsRel.cons {F : Facts} {L : List Nat} {p : Nat × AV} {ps : List (Nat × AV)} {q : Nat × Value} {qs : List (Nat × Value)} (h : PartsRel F L (p :: ps) (q :: qs)) : p.1 = q.1 ∧ Rel F L p.2 q.2 ∧ PartsRel F L ps qs := by
  obtain ⟨h1, h2⟩ := h
  obtain ⟨a, b⟩ := h2 0 p q rfl rfl
  exact ⟨a, b, by simpa using h1, fun k p' q' hp hq => h2 (k + 1) p' q' hp hq⟩

theorem fillA_run {place : Nat → Option (Nat × Nat)} : ∀ (ps : List (Nat × AV)) (qs : List (Nat × Value)) (cs r : List AV) (arr : List Value), PartsRel F L ps qs → arr.length = cs.length → (∀ (k : Nat) c, cs[k]? = some c → Rel F L c (arr.getD k undef)) →
    fillA place cs ps = some r → ∃ arr' : List Value, Instr.fill place arr.toArray qs = some arr'.toArray ∧ arr'.length = r.length ∧ ∀ (k : Nat) c, r[k]? = some c → Rel F L c (arr'.getD k undef) := by
  intro ps
  induction ps with
  | nil =>
    intro qs cs r arr hp hl hr h
    cases qs with
    | nil => simp only [fillA] at h; injection h with h; subst h; exact ⟨arr, rfl, hl, hr⟩
    | cons q qs => exact absurd hp.1 (by simp)
  | cons p ps ih =>
    intro qs cs r arr hp hl hr h
    cases qs with
    | nil => exact absurd hp.1 (by simp)
    | cons q qs =>
      obtain ⟨i, a⟩ := p
      obtain ⟨j, v⟩ := q
      obtain ⟨h1, h2, h3⟩ := hp.cons
      simp only at h1 h2
      subst h1
      simp only [fillA] at h
      split at h
      · cases h
      · rename_i off size hpl
        split at h
        · rename_i hc
          obtain ⟨hc1, hc2, hc3⟩ := hc
          have hun : a ≠ .un := by rintro rfl; simp [AV.cells, AV.one] at hc2
          obtain ⟨hv1, hv2⟩ := h2.cellsOne hc2
          have hvs : v.cells.size = size := hv1.trans hc1
          have hside : ∀ (k : Nat) c, (cs.take off ++ a.cells ++ cs.drop (off + size))[k]? = some c → Rel F L c ((arr.take off ++ v.cells.toList ++ arr.drop (off + size)).getD k undef) := by
            intro k c hk
            have hol : (arr.take off).length = off := by simp; omega
            have hcl : (cs.take off).length = off := by simp; omega
            have hul : v.cells.toList.length = size := by simp [hvs]
            rw [List.getD_eq_getElem?_getD]
            by_cases hk1 : k < off
            · rw [List.append_assoc, List.getElem?_append_left (by rw [hcl]; exact hk1), List.getElem?_take, if_pos hk1] at hk
              rw [List.append_assoc, List.getElem?_append_left (by rw [hol]; exact hk1), List.getElem?_take, if_pos hk1, ← List.getD_eq_getElem?_getD]
              exact hr k c hk
            · by_cases hk2 : k < off + size
              · rw [List.append_assoc, List.getElem?_append_right (by rw [hcl]; omega), hcl, List.getElem?_append_left (by omega)] at hk
                rw [List.append_assoc, List.getElem?_append_right (by rw [hol]; omega), hol, List.getElem?_append_left (by omega), ← List.getD_eq_getElem?_getD]
                exact hv2 _ c hk
              · rw [List.getElem?_append_right (by rw [List.length_append, hcl]; omega), List.length_append, hcl, hc1, List.getElem?_drop] at hk
                rw [List.getElem?_append_right (by rw [List.length_append, hol, hul]; omega), List.length_append, hol, hul, List.getElem?_drop, ← List.getD_eq_getElem?_getD]
                exact hr _ c hk
          obtain ⟨arr', e1, e2, e3⟩ := ih qs (cs.take off ++ a.cells ++ cs.drop (off + size)) r (arr.take off ++ v.cells.toList ++ arr.drop (off + size)) h3 (by simp [hl, hv1]) hside h
          refine ⟨arr', ?_, e2, e3⟩
          simp only [Instr.fill, hpl]
          rw [if_neg (by simp [hvs]; omega), ← e1]
          congr 1
          apply Array.ext'
          have hf := fold_put off v.cells.toList 0 arr.toArray (by simp [hvs]; omega)
          simp only [Nat.add_zero, Array.length_toList, hvs] at hf
          rw [← Array.foldl_toList, Array.toList_zipIdx]
          simpa using hf
        · cases h

theorem zeroA_run {t : TypeId} {z : List AV} (h : zeroA P t = some z) : ∃ v arr, (zeroValue t).run P w = .ok v w ∧ v.cells = List.toArray arr ∧ arr.length = z.length ∧ (∀ (k : Nat) c, z[k]? = some c → Rel F L c (arr.getD k undef)) ∧
    (P.info? t).bind (·.zero) = some v := by
  unfold zeroA at h
  obtain ⟨v, hv, h⟩ := Option.bind_eq_some_iff.1 h
  split at h
  · rename_i hone
    injection h with h; subst h
    obtain ⟨h1, h2⟩ := (litX_rel F L v).cellsOne hone
    refine ⟨v, v.cells.toList, ?_, by simp, by simpa using h1, h2, hv⟩
    obtain ⟨i, hi, hz⟩ := Option.bind_eq_some_iff.1 hv
    simp [zeroValue, typeInfo, hi, hz]
  · cases h
end
end Go.Lv
