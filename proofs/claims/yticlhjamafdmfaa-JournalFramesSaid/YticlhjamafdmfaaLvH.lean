import Derived.Test.YticlhjamafdmfaaLvG
import Derived.Deep.Upon
set_option linter.unusedVariables false
set_option linter.unusedSimpArgs false
namespace Go.Lv
section
variable {P : Program} {F : Facts} {L : List Nat} {w : World} {X : Nat → Prop} {H : Heap}

/-- The cells of a row, in a line. -/
structure Row (F : Facts) (L : List Nat) (n : Nat) (xs : List AV) (vs : List Value) : Prop where
  len : vs.length = xs.length * n
  each : ∀ (i : Nat) (e : AV), xs[i]? = some e → e.cells.length = n
  rel : ∀ (i : Nat) (e : AV) (k : Nat) (c : AV), xs[i]? = some e → e.cells[k]? = some c → Rel F L c (vs.getD (i * n + k) undef)

theorem Row.nil (n : Nat) : Row F L n [] [] := ⟨by simp, fun i e h => by simp at h, fun i e k c h => by simp at h⟩

theorem Row.goes {G : Nat → Prop} {F' : Facts} {L' : List Nat} {w' : World} {n : Nat} {xs : List AV} {vs : List Value} (h : Row F L n xs vs) (hg : Goes G F L w F' L' w') : Row F' L' n xs vs :=
  ⟨h.len, h.each, fun i e k c h1 h2 => (h.rel i e k c h1 h2).goes hg⟩

theorem idx_lt {i k n m : Nat} (hi : i < m) (hk : k < n) : i * n + k < m * n := by
  have : (i + 1) * n ≤ m * n := Nat.mul_le_mul_right n hi
  rw [Nat.add_mul, Nat.one_mul] at this
  omega

theorem Row.append {n : Nat} {xs ys : List AV} {us vs : List Value} (h : Row F L n xs us) (h' : Row F L n ys vs) : Row F L n (xs ++ ys) (us ++ vs) := by
  refine ⟨by simp [h.len, h'.len, Nat.add_mul], fun i e hi => ?_, fun i e k c hi hk => ?_⟩
  · rcases Nat.lt_or_ge i xs.length with hl | hl
    · rw [List.getElem?_append_left hl] at hi; exact h.each i e hi
    · rw [List.getElem?_append_right hl] at hi; exact h'.each _ e hi
  · rcases Nat.lt_or_ge i xs.length with hl | hl
    · rw [List.getElem?_append_left hl] at hi
      have hkn : k < n := h.each i e hi ▸ (List.getElem?_eq_some_iff.1 hk).1
      have := h.rel i e k c hi hk
      rw [List.getD_eq_getElem?_getD] at this ⊢
      rw [List.getElem?_append_left (by rw [h.len]; exact idx_lt hl hkn)]
      exact this
    · rw [List.getElem?_append_right hl] at hi
      have := h'.rel _ e k c hi hk
      rw [List.getD_eq_getElem?_getD] at this ⊢
      have hm : xs.length * n ≤ i * n := Nat.mul_le_mul_right n hl
      rw [List.getElem?_append_right (by rw [h.len]; omega), h.len]
      rw [Nat.sub_mul] at this
      rwa [show i * n + k - xs.length * n = i * n - xs.length * n + k by omega]

theorem Rel.row {n : Nat} {xs : List AV} {v : Value} (hS : St P F L X w H) (h : Rel F L (.sl xs) v) (hn : ∀ a ∈ xs, a.cells.length = n) :
    ∃ a cap vs, v = .slice a xs.length cap ∧ xs.length ≤ cap ∧ (a = none → cap = 0) ∧ Row F L n xs vs ∧ (∀ u ∈ vs, u.oneCell' = true) ∧ (vs ≠ [] → ∃ B o, a = some ⟨B, o, none⟩ ∧ ∀ (j : Nat) u, vs[j]? = some u → F B (o + j) = some u) := by
  cases h with
  | sl0 a cap h => exact ⟨a, cap, [], rfl, by simp, h, Row.nil n, by simp, by simp⟩
  | sl xs B o len cap sz vals hl h0 hc hs hnn hf hr =>
    have hsz : sz = n := by
      have h0' : 0 < xs.length := by omega
      have e1 := hnn 0 _ (List.getElem?_eq_getElem h0')
      have e2 := hn _ (List.getElem_mem h0')
      omega
    subst hsz
    obtain ⟨vs, hvs⟩ : ∃ vs : List Value, vs = (List.range (len * sz)).map fun j => vals (j / sz) (j % sz) := ⟨_, rfl⟩
    have hget : ∀ j, j < len * sz → vs[j]? = some (vals (j / sz) (j % sz)) := by
      intro j hj
      simp [hvs, hj]
    have hF : ∀ (j : Nat) u, vs[j]? = some u → F B (o + j) = some u := by
      intro j u hu
      have hj : j < len * sz := by
        have := (List.getElem?_eq_some_iff.1 hu).1
        simpa [hvs] using this
      rw [hget j hj] at hu
      injection hu with hu
      subst hu
      have h1 : j / sz < len := by rw [Nat.div_lt_iff_lt_mul hs]; exact hj
      have h2 : j % sz < sz := Nat.mod_lt _ hs
      have := hf _ _ h1 h2
      rw [Nat.add_assoc, Nat.mul_comm, Nat.div_add_mod] at this
      exact this
    refine ⟨_, cap, vs, by rw [hl], by omega, (fun h => by cases h), ⟨by simp [hvs, hl], hnn, fun i e k c hi hk => ?_⟩, fun u hu => ?_, fun _ => ⟨B, o, rfl, hF⟩⟩
    · have hkn : k < sz := hnn i e hi ▸ (List.getElem?_eq_some_iff.1 hk).1
      have hil : i < len := hl ▸ (List.getElem?_eq_some_iff.1 hi).1
      rw [List.getD_eq_getElem?_getD, hget _ (idx_lt hil hkn)]
      have e1 : (i * sz + k) / sz = i := by rw [Nat.mul_comm, Nat.mul_add_div hs, Nat.div_eq_of_lt hkn, Nat.add_zero]
      have e2 : (i * sz + k) % sz = k := by rw [Nat.mul_comm, Nat.mul_add_mod]; exact Nat.mod_eq_of_lt hkn
      rw [e1, e2]
      exact hr i e k c hi hk
    · obtain ⟨j, hj⟩ := List.mem_iff_getElem?.1 hu
      exact (hS.mem _ _ _ (hF j u hj)).2

theorem Rel.mk {n B o cap : Nat} {xs : List AV} {vs : List Value} (hr : Row F L n xs vs) (hn : 0 < n) (hc : xs.length ≤ cap) (hF : ∀ (j : Nat) u, vs[j]? = some u → F B (o + j) = some u) :
    Rel F L (.sl xs) (.slice (some ⟨B, o, none⟩) xs.length cap) := by
  rcases Nat.eq_zero_or_pos xs.length with h0 | h0
  · have : xs = [] := List.eq_nil_of_length_eq_zero h0
    subst this
    exact .sl0 _ _ (by simp)
  · refine .sl xs B o xs.length cap n (fun i k => vs.getD (i * n + k) undef) rfl h0 hc hn hr.each (fun i k hi hk => ?_) hr.rel
    have hlt : i * n + k < vs.length := by rw [hr.len]; exact idx_lt hi hk
    have := hF _ _ (getD_get hlt)
    rwa [← Nat.add_assoc] at this

/-! ### A literal row -/
theorem flat_get : ∀ (vs : List Value) (n i k : Nat) (v : Value), (∀ v ∈ vs, v.cells.size = n) → vs[i]? = some v → k < n → (vs.flatMap (·.cells.toList))[i * n + k]? = v.cells.toList[k]? := by
  intro vs
  induction vs with
  | nil => intro n i k v h hi; simp at hi
  | cons u vs ih =>
    intro n i k v h hi hk
    have hu : u.cells.toList.length = n := by simpa using h u (by simp)
    cases i with
    | zero =>
      simp at hi
      subst hi
      rw [List.flatMap_cons, Nat.zero_mul, Nat.zero_add, List.getElem?_append_left (by omega)]
    | succ i =>
      rw [List.flatMap_cons, List.getElem?_append_right (by rw [hu, Nat.add_mul]; omega), hu, Nat.add_mul, show i * n + 1 * n + k - n = i * n + k by omega]
      exact ih n i k v (fun v hv => h v (by simp [hv])) (by simpa using hi) hk

theorem flat_len : ∀ (vs : List Value) (n : Nat), (∀ v ∈ vs, v.cells.size = n) → (vs.flatMap (·.cells.toList)).length = vs.length * n := by
  intro vs n h
  induction vs with
  | nil => simp
  | cons u vs ih =>
    rw [List.flatMap_cons, List.length_append, ih (fun v hv => h v (by simp [hv])), Array.length_toList, h u (by simp), List.length_cons, Nat.add_mul]
    omega

theorem fill_seq {n : Nat} : ∀ (vs : List Value) (i0 : Nat) (arr : List Value), (∀ v ∈ vs, v.cells.size = n) → arr.length = (i0 + vs.length) * n →
    Instr.fill (fun i => some (i * n, n)) arr.toArray ((List.range' i0 vs.length).zip vs) = some (arr.take (i0 * n) ++ vs.flatMap (·.cells.toList)).toArray := by
  intro vs
  induction vs with
  | nil =>
    intro i0 arr h hl
    simp only [List.length_nil, Nat.add_zero] at hl
    simp [Instr.fill, List.take_of_length_le (Nat.le_of_eq hl)]
  | cons v vs ih =>
    intro i0 arr h hl
    have hv : v.cells.size = n := h v (by simp)
    have hle : i0 * n + n ≤ arr.length := by
      rw [hl, List.length_cons, Nat.add_mul, Nat.add_mul]
      omega
    simp only [List.length_cons, List.range'_succ, List.zip_cons_cons, Instr.fill]
    rw [if_neg (by simp [hv]; omega)]
    have hf := fold_put (i0 * n) v.cells.toList 0 arr.toArray (by simp [hv]; omega)
    simp only [Nat.add_zero, Array.length_toList, hv] at hf
    have he : Array.foldl (fun (cs : Array Value) (x : Value × Nat) => cs.setIfInBounds (i0 * n + x.2) x.1) arr.toArray v.cells.zipIdx = (arr.take (i0 * n) ++ v.cells.toList ++ arr.drop (i0 * n + n)).toArray := by
      apply Array.ext'
      rw [← Array.foldl_toList, Array.toList_zipIdx]
      simpa using hf
    rw [he, ih (i0 + 1) _ (fun v hv => h v (by simp [hv]))]
    · have h1 : (arr.take (i0 * n) ++ v.cells.toList).length = (i0 + 1) * n := by
        simp [hv, Nat.add_mul]
        omega
      rw [List.take_append_of_le_length (by omega), List.take_of_length_le (by omega)]
      simp
    · simp [hv, hl, Nat.add_mul]
      omega

theorem zipOf {ps : List (Nat × AV)} {qs : List (Nat × Value)} {len : Nat} (hp : PartsRel F L ps qs) (h : ps.map (·.1) = List.range len) : qs = (List.range' 0 (qs.map (·.2)).length).zip (qs.map (·.2)) ∧ qs.length = len := by
  have hlen : ps.length = len := by have := congrArg List.length h; simpa using this
  have hq : qs.map (·.1) = List.range len := by
    rw [← h]
    apply List.ext_getElem?
    intro i
    rw [List.getElem?_map, List.getElem?_map]
    rcases Nat.lt_or_ge i qs.length with hi | hi
    · have hi' : i < ps.length := hp.1 ▸ hi
      rw [List.getElem?_eq_getElem hi, List.getElem?_eq_getElem hi']
      simp [(hp.2 i _ _ (List.getElem?_eq_getElem hi') (List.getElem?_eq_getElem hi)).1]
    · rw [List.getElem?_eq_none hi, List.getElem?_eq_none (hp.1 ▸ hi)]
      rfl
  refine ⟨?_, hp.1 ▸ hlen⟩
  rw [List.length_map, ← hp.1, hlen, ← List.range_eq_range', ← hq]
  clear hq hlen h hp
  induction qs with
  | nil => rfl
  | cons q qs ih => rw [List.map_cons, List.map_cons, List.zip_cons_cons, ← ih]

theorem buildSliceA_run (hS : St P F L X w H) {t : TypeId} {len : Nat} {ps : List (Nat × AV)} {qs : List (Nat × Value)} {r : AV} (hp : PartsRel F L ps qs) (h : buildSliceA P t len ps = some r) :
    ∃ u w' F' n e, elemOfT P t = some e ∧ sizeT P e = some n ∧ (Instr.buildSlice t len qs.toArray).run P w = .ok u w' ∧ Rel F' L r u ∧ St P F' L X w' H ∧ Goes (fun _ => False) F L w F' L w' ∧ Own F' L X w' n u ∧ u.ownBlock = some w.heap.size ∧ w.heap.size < w'.heap.size := by
  unfold buildSliceA at h
  obtain ⟨e, he, h⟩ := Option.bind_eq_some_iff.1 h
  obtain ⟨n, hn, h⟩ := Option.bind_eq_some_iff.1 h
  split at h
  · rename_i hc
    obtain ⟨hn0, hsmall, hrange, hparts, hz⟩ := hc
    injection h with h; subst h
    obtain ⟨hq, hql⟩ := zipOf hp hrange
    obtain ⟨z, hz, hzl⟩ := Option.map_eq_some_iff.1 hz
    obtain ⟨zv, zarr, z1, z2, z3, z4, z5⟩ := zeroA_run (P := P) (F := F) (L := L) (w := w) hz
    have hu : P.underlying t = some (.slice e) := by
      unfold elemOfT at he
      split at he
      · injection he with he; subst he; assumption
      · cases he
    obtain ⟨vs, hvs⟩ : ∃ vs, vs = qs.map (·.2) := ⟨_, rfl⟩
    rw [← hvs] at hq
    have hvl : vs.length = len := by rw [hvs, List.length_map, hql]
    have hcell : ∀ (i : Nat) a v, (ps.map (·.2))[i]? = some a → vs[i]? = some v → Rel F L a v ∧ a.cells.length = n ∧ a.cells.all AV.one = true := by
      intro i a v ha hv
      rw [List.getElem?_map] at ha
      rw [hvs, List.getElem?_map] at hv
      obtain ⟨p, hp1, rfl⟩ := Option.map_eq_some_iff.1 ha
      obtain ⟨q, hq1, rfl⟩ := Option.map_eq_some_iff.1 hv
      exact ⟨(hp.2 i p q hp1 hq1).2, hparts p (List.mem_of_getElem? hp1)⟩
    have hpl : (ps.map (·.2)).length = len := by rw [List.length_map, hp.1, hql]
    have hsz : ∀ v ∈ vs, v.cells.size = n := by
      intro v hv
      obtain ⟨i, hi⟩ := List.mem_iff_getElem?.1 hv
      have hil : i < (ps.map (·.2)).length := by rw [hpl, ← hvl]; exact (List.getElem?_eq_some_iff.1 hi).1
      obtain ⟨h1, h2, h3⟩ := hcell i _ v (List.getElem?_eq_getElem hil) hi
      rw [(h1.cellsOne h3).1, h2]
    obtain ⟨ie, hie, hzz⟩ := Option.bind_eq_some_iff.1 z5
    have hien : ie.size = n := by unfold sizeT at hn; simpa [hie] using hn
    obtain ⟨flat, hflat⟩ : ∃ flat, flat = vs.flatMap (·.cells.toList) := ⟨_, rfl⟩
    have hfl : flat.length = len * n := by rw [hflat, flat_len vs n hsz, hvl]
    have hrun : (Instr.buildSlice t len qs.toArray).run P w = .ok (.slice (some ⟨w.heap.size, 0, none⟩) len len) (w.alloc (.cells flat.toArray e)) := by
      rcases Nat.eq_zero_or_pos len with h0 | h0
      · have hv0 : vs = [] := List.eq_nil_of_length_eq_zero (by omega)
        have hq0 : qs = [] := List.eq_nil_of_length_eq_zero (by omega)
        subst hv0
        simp only [List.flatMap_nil] at hflat
        subst hflat hq0 h0
        have h00 : Array.range 0 = #[] := by simp [Array.range]
        simp [Instr.buildSlice, run_underlying hu, sizeT_run hn, Instr.fill, newRow, h00]
      · refine run_buildSlice w t e len qs.toArray flat.toArray ie zv hu hie hzz (by rw [hien]; omega) (by rw [hien]; exact Nat.mul_ne_zero (by omega) (by omega)) ?_
        rw [hien]
        have hzs : ((Array.range (len * n)).map (zv.cells[· % zv.cells.size]!)) = (((Array.range (len * n)).map (zv.cells[· % zv.cells.size]!)).toList).toArray := by rw [Array.toArray_toList]
        rw [hzs]
        simp only [List.toList_toArray]
        rw [hq, fill_seq vs 0 _ hsz (by simp [hvl])]
        simp [hflat]
    have hg := Grew.alloc w flat e
    have hone : ∀ u ∈ flat, u.oneCell' = true := by
      intro u hu
      rw [hflat] at hu
      obtain ⟨v, hv, hu⟩ := List.mem_flatMap.1 hu
      obtain ⟨i, hi⟩ := List.mem_iff_getElem?.1 hv
      have hil : i < (ps.map (·.2)).length := by rw [hpl, ← hvl]; exact (List.getElem?_eq_some_iff.1 hi).1
      obtain ⟨h1, h2, h3⟩ := hcell i _ v (List.getElem?_eq_getElem hil) hi
      obtain ⟨h4, h5⟩ := h1.cellsOne h3
      exact allOne h3 (by simpa using h4) h5 u hu
    obtain ⟨hS', hgo⟩ := hS.row hg flat (fun i v hv => ⟨hv, hone v (List.mem_of_getElem? hv)⟩)
    have hrow : Row F L n (ps.map (·.2)) flat := by
      refine ⟨by rw [hfl, hpl], fun i a ha => ?_, fun i a k c ha hk => ?_⟩
      · have hil : i < vs.length := by rw [hvl, ← hpl]; exact (List.getElem?_eq_some_iff.1 ha).1
        exact (hcell i a _ ha (List.getElem?_eq_getElem hil)).2.1
      · have hil : i < vs.length := by rw [hvl, ← hpl]; exact (List.getElem?_eq_some_iff.1 ha).1
        obtain ⟨h1, h2, h3⟩ := hcell i a _ ha (List.getElem?_eq_getElem hil)
        have hkn : k < n := h2 ▸ (List.getElem?_eq_some_iff.1 hk).1
        rw [hflat, List.getD_eq_getElem?_getD, flat_get vs n i k _ hsz (List.getElem?_eq_getElem hil) hkn, ← List.getD_eq_getElem?_getD]
        exact (h1.cellsOne h3).2 k c hk
    refine ⟨_, _, addF F w.heap.size flat, n, e, he, hn, hrun, ?_, hS', hgo, ?_, rfl, by simp⟩
    · have hl2 : (ps.map (·.2)).length = len := hpl
      have := Rel.mk (F := addF F w.heap.size flat) (L := L) (B := w.heap.size) (o := 0) (cap := len) (hrow.goes hgo) hn0 (by omega) (fun j u hu => by rw [addF_get, if_pos rfl, Nat.zero_add]; exact hu)
      rwa [hl2] at this
    · rintro a l c hv
      injection hv with h1 h2 h3
      injection h1 with h1
      subst h1 h2 h3
      refine ⟨rfl, Nat.le_refl _, fun hx => ?_, fun hm => ?_, by simp, fun i hi => ?_, fun i hi => by simp at hi, _, _, hg.new⟩
      · exact absurd (hS.xlt _ hx) (by simp)
      · exact absurd (hS.ltL hm) (by simp)
      · simp only [Nat.zero_add] at hi
        rw [addF_get, if_pos rfl, List.getElem?_eq_none (by omega)]
  · cases h

/-! ### append -/
/-- Cells laid into a row. -/
theorem setCells_row (B : Nat) : ∀ (vs : List Value) (o : Nat) (w : World) (arr : List Value) (t : TypeId), w.heap[B]? = some (.cells arr.toArray t (0, 0)) → o + vs.length ≤ arr.length →
    ∃ arr' : List Value, (w.setCells B o vs).heap[B]? = some (.cells arr'.toArray t (0, 0)) ∧ arr'.length = arr.length ∧ ∀ i, arr'[i]? = if o ≤ i ∧ i < o + vs.length then vs[i - o]? else arr[i]? := by
  intro vs
  induction vs with
  | nil =>
    intro o w arr t h hl
    exact ⟨arr, h, rfl, fun i => by rw [if_neg (by simp)]⟩
  | cons v vs ih =>
    intro o w arr t h hl
    simp only [List.length_cons] at hl
    have hB : B < w.heap.size := (Array.getElem?_eq_some_iff.1 h).1
    have h1 : (w.setCell ⟨B, o, none⟩ v).heap[B]? = some (.cells (arr.set o v).toArray t (0, 0)) := by
      unfold World.setCell
      simp only [Array.getElem?_modify, h, if_true, Option.map_some]
      simp
    obtain ⟨arr', k1, k2, k3⟩ := ih (o + 1) (w.setCell ⟨B, o, none⟩ v) (arr.set o v) t h1 (by simp; omega)
    refine ⟨arr', k1, by simpa using k2, fun i => ?_⟩
    rw [k3]
    by_cases hi : o + 1 ≤ i ∧ i < o + 1 + vs.length
    · rw [if_pos hi, if_pos (by simp; omega), show i - o = (i - (o + 1)) + 1 by omega, List.getElem?_cons_succ]
    · rw [if_neg hi]
      by_cases hio : i = o
      · subst hio
        rw [if_pos (by simp), List.getElem?_set_self (by omega)]
        simp
      · rw [if_neg (by simp; omega), List.getElem?_set_ne (fun e => hio e.symm)]


theorem st_setCells (hS : St P F L X w H) {B o : Nat} {news : List Value} (hB : B ∉ L) (hF : ∀ i, o ≤ i → F B i = none)
    (hc : ∀ j, j < news.length → (w.cell? ⟨B, o + j, none⟩).isSome = true) (h1 : ∀ u ∈ news, u.oneCell' = true) :
    ∃ F', (∀ b i, F' b i = if b = B ∧ o ≤ i ∧ i < o + news.length then news[i - o]? else F b i) ∧ St P F' L X (w.setCells B o news) H ∧ Goes (fun b => b = B) F L w F' L (w.setCells B o news) := by
  obtain ⟨F', hFr, hF'⟩ : ∃ F' : Facts, F'.room = F.room ∧ ∀ b i, F' b i = if b = B ∧ o ≤ i ∧ i < o + news.length then news[i - o]? else F b i := ⟨⟨fun b i => if b = B ∧ o ≤ i ∧ i < o + news.length then news[i - o]? else F b i, F.room⟩, rfl, fun _ _ => rfl⟩
  have hsize : ∀ (vs : List Value) (o : Nat) (w : World), (w.setCells B o vs).heap.size = w.heap.size := by
    intro vs
    induction vs with
    | nil => intro o w; rfl
    | cons v vs ih => intro o w; rw [World.setCells, ih]; simp [World.setCell]
  have hother : ∀ i, i < w.heap.size → i ≠ B → (w.setCells B o news).heap[i]? = w.heap[i]? := fun i hi hne => World.heap_setCells_other w B o news hi hne
  have hmono : ∀ b i v, F b i = some v → F' b i = some v := by
    intro b i v h
    rw [hF']
    split
    · rename_i hh
      obtain ⟨rfl, h2, h3⟩ := hh
      rw [hF i h2] at h
      cases h
    · exact h
  have htape : ∀ (vs : List Value) (o : Nat) (w : World), (w.setCells B o vs).tape = w.tape := by
    intro vs
    induction vs with
    | nil => intro o w; rfl
    | cons v vs ih => intro o w; rw [World.setCells, ih]; simp [World.setCell]
  have hgo : Goes (fun b => b = B) F L w F' L (w.setCells B o news) :=
    ⟨by rw [hsize]; exact Nat.le_refl _, fun b hb hg hL => ⟨hother b hb hg, fun i => by rw [hF', if_neg (fun h => hg h.1)]⟩, hmono, fun _ _ h => h, fun _ h => .inl h,
      ⟨World.os_setCells w B o news, htape news o w, World.output_setCells w B o news⟩, fun b => by rw [hFr]; exact Nat.le_refl _⟩
  refine ⟨F', hF', ⟨fun b i v h => ?_, hS.len, fun j cs b hj hne hmv hb => ?_, fun b hb => by rw [hsize]; exact hS.lt b hb, fun j cs b hj hne hb i hi => ?_, hS.nox, hS.inj, fun b hb => by rw [hsize]; exact hS.xlt b hb, fun b hb => by rw [hFr]; exact hS.room0 b (by rw [hsize] at hb; exact hb), fun j ks vs b hj hb => ?_⟩, hgo⟩
  · rw [hF'] at h
    split at h
    · rename_i hh
      obtain ⟨rfl, h2, h3⟩ := hh
      have hlt : i - o < news.length := by omega
      have := World.cell?_setCells_in b news o w hc (i - o) hlt
      rw [show o + (i - o) = i by omega] at this
      rw [List.getElem?_eq_getElem hlt] at h
      injection h with h
      subst h
      exact ⟨this, h1 _ (List.getElem_mem hlt)⟩
    · rename_i hh
      obtain ⟨h2, h3⟩ := hS.mem _ _ _ h
      exact ⟨by rw [World.cell?_setCells_out B news o w ⟨b, i, none⟩ (fun e _ => by simp only at e ⊢; omega)]; exact h2, h3⟩
  · obtain ⟨arr, t, h2, h3, h4, h5⟩ := hS.obj j cs b hj hne hmv hb
    exact ⟨arr, t, by rw [hother b (hS.ltL (mem_of_get hb)) (fun e => hB (e ▸ mem_of_get hb))]; exact h2, h3, by rw [hFr]; exact h4, fun k c hk => (h5 k c hk).goes hgo⟩
  · rw [hF', if_neg (fun (h : b = B ∧ _) => hB (h.1 ▸ mem_of_get hb))]
    exact hS.nof j cs b hj hne hb i hi
  · exact (hS.mob j ks vs b hj hb).goes hgo (hother b (hS.ltL (mem_of_get hb)) (fun e => hB (e ▸ mem_of_get hb)))

/-- Something that can be laid behind a row: its elements as cells. -/
theorem append_run (hS : St P F L X w H) {t tx ty e : TypeId} {n by_ : Nat} {z : List AV} {xs ys : List AV} {v y : Value} {news : List Value} {m : Nat}
    (ht : P.underlying t = some (.slice e)) (hn : sizeT P e = some n) (hby : bytesT P e = some by_) (hz : zeroA P e = some z) (hzl : z.length = n) (hn0 : 0 < n)
    (hx : Rel F L (.sl xs) v) (hxn : ∀ a ∈ xs, a.cells.length = n) (hown : Own F L X w n v)
    (hsrc : Src P n tx y m news w) (hrow : Row F L n ys news) (hm : ys.length = m) (hle : (xs.length + m) * (by_ + 1) ≤ 140737488355328) :
    ∃ u w' F', (Builtin.append_ #[t, tx] ty #[v, y]).run P w = .ok u w' ∧ Rel F' L (.sl (xs ++ ys)) u ∧ St P F' L X w' H ∧ Goes (fun B => v.ownBlock = some B) F L w F' L w' ∧ Own F' L X w' n u ∧
      (∀ B, u.ownBlock = some B → v.ownBlock = some B ∨ w.heap.size ≤ B) := by
  obtain ⟨ie, hie, hien⟩ : ∃ ie, P.info? e = some ie ∧ ie.size = n := by
    unfold sizeT at hn
    obtain ⟨ie, h1, h2⟩ := Option.map_eq_some_iff.1 hn
    exact ⟨ie, h1, h2⟩
  have hieb : ie.bytes = by_ := by unfold bytesT at hby; simpa [hie] using hby
  obtain ⟨zv, zarr, z1, z2, z3, z4, z5⟩ := zeroA_run (P := P) (F := F) (L := L) (w := w) hz
  have hzz : ie.zero = some zv := by simpa [hie] using z5
  obtain ⟨a, cap, vs, rfl, hc, hnone, hr, hone, hF⟩ := hx.row hS hxn
  have hml : xs.length + m ≤ 140737488355328 := Nat.le_trans (Nat.le_mul_of_pos_right _ (by omega)) hle
  have hnl : news.length = m * n := hsrc.newsLen
  have hbytes : (xs.length + m) * ie.bytes ≤ 140737488355328 := by
    rw [hieb]
    rw [Nat.mul_add, Nat.mul_one] at hle
    omega
  subst hm
  rcases Nat.eq_zero_or_pos ys.length with h0 | h0
  · have hy : ys = [] := List.eq_nil_of_length_eq_zero h0
    subst hy
    have hnews : news = [] := List.eq_nil_of_length_eq_zero (by simpa using hnl)
    subst hnews
    have hr0 := run_append_nothing w t tx ty e ie ht hie a xs.length cap hc y (by rw [hien]; exact hsrc)
    refine ⟨_, w, F, hr0, by rw [List.append_nil]; exact hx, hS, Goes.refl _ F L w, hown, fun B hB => .inl hB⟩
  by_cases hroom : xs.length + ys.length ≤ cap
  · -- there is room
    obtain ⟨⟨B, o, sp⟩, rfl⟩ : ∃ ad, a = some ad := by
      cases a with
      | none => have := hnone rfl; omega
      | some ad => exact ⟨ad, rfl⟩
    obtain ⟨h1, h2, h3, h4, h5, h6, h7, arr0, t0, h8⟩ := hown _ _ _ rfl
    simp only at h1 h3 h4 h5 h6 h7 h8
    subst h1
    have hfit : ∀ j, j < news.length → j < (cap - xs.length) * n := by
      intro j hj
      have : ys.length * n ≤ (cap - xs.length) * n := Nat.mul_le_mul_right n (by omega)
      omega
    have hr0 := run_append_room_src w t tx ty e ie ht hie B o xs.length cap y ys.length news (by rw [hien]; exact hsrc) hroom
      (fun j hj => by rw [hien]; exact (h7 j (hfit j hj)).1) (fun j hj => by rw [hien]; exact (h7 j (hfit j hj)).2)
    rw [hien] at hr0
    obtain ⟨F', hF', hS', hgo⟩ := st_setCells hS (o := o + xs.length * n) (news := news) h4 h6 (fun j hj => (h7 j (hfit j hj)).1) hsrc.one
    have hrow' : Row F' L n (xs ++ ys) (vs ++ news) := (hr.goes hgo).append (hrow.goes hgo)
    have hrel : Rel F' L (.sl (xs ++ ys)) (.slice (some ⟨B, o, none⟩) (xs ++ ys).length cap) := by
      refine Rel.mk hrow' hn0 (by simpa using hroom) (fun j u hu => ?_)
      rcases Nat.lt_or_ge j vs.length with hj | hj
      · rw [List.getElem?_append_left hj] at hu
        obtain ⟨B', o', he, hf⟩ := hF (by intro hv; rw [hv] at hj; simp at hj)
        injection he with he
        injection he with he1 he2
        subst he1 he2
        exact hgo.mono _ _ _ (hf j u hu)
      · rw [List.getElem?_append_right hj, hr.len] at hu
        have hjl := (List.getElem?_eq_some_iff.1 hu).1
        have hvl := hr.len
        rw [hF', if_pos ⟨rfl, by omega, by omega⟩, ← hu]
        congr 1
        omega
    rw [List.length_append] at hrel
    refine ⟨_, _, F', hr0, hrel, hS', hgo.weaken (fun b _ hb => by simp [Value.ownBlock, hb]), ?_, fun b hb => .inl hb⟩
    rintro ad l c hv
    injection hv with e1 e2 e3
    injection e1 with e1
    subst e1 e2 e3
    have hfit0 : o + xs.length * n + news.length ≤ arr0.length ∨ news = [] := by
      rcases Nat.eq_zero_or_pos news.length with h0 | h0
      · exact .inr (List.eq_nil_of_length_eq_zero h0)
      · refine .inl ?_
        have := (h7 (news.length - 1) (hfit _ (by omega))).1
        rw [cell?_eq h8] at this
        have hlt : o + xs.length * n + (news.length - 1) < arr0.length := by
          rcases Nat.lt_or_ge (o + xs.length * n + (news.length - 1)) arr0.length with h | h
          · exact h
          · rw [List.getElem?_eq_none h] at this; cases this
        omega
    have hshape : ∃ (arr : List Value) (t : TypeId), (w.setCells B (o + xs.length * n) news).heap[B]? = some (.cells arr.toArray t (0, 0)) := by
      rcases hfit0 with h | h
      · obtain ⟨arr', k1, _⟩ := setCells_row B news _ w arr0 t0 h8 h
        exact ⟨arr', t0, k1⟩
      · rw [h]; exact ⟨arr0, t0, h8⟩
    refine ⟨rfl, hroom, h3, h4, ?_, fun i hi => ?_, fun i hi => ?_, hshape⟩
    · exact Nat.lt_of_lt_of_le h5 hgo.size
    · simp only at hi
      rw [Nat.add_mul] at hi
      rw [hF', if_neg (by rintro ⟨_, _, h⟩; omega)]
      exact h6 i (by omega)
    · have hlt : ys.length * n + i < (cap - xs.length) * n := by
        have : (cap - (xs.length + ys.length)) * n + ys.length * n = (cap - xs.length) * n := by rw [← Nat.add_mul]; congr 1; omega
        omega
      have := h7 _ hlt
      simp only
      rw [World.cell?_setCells_out B news _ w _ (fun _ _ => by simp only; rw [Nat.add_mul]; omega), World.frozen?_setCells, Nat.add_mul]
      rwa [show o + (xs.length * n + ys.length * n) + i = o + xs.length * n + (ys.length * n + i) by omega]
  · -- a new row
    have hold : (Builtin.firstCells ie.size xs.length (.slice a xs.length cap)).run P w.drew = .ok vs.toArray w.drew := by
      rw [hien]
      rcases Nat.eq_zero_or_pos xs.length with hx0 | hx0
      · have : vs = [] := List.eq_nil_of_length_eq_zero (by rw [hr.len, hx0, Nat.zero_mul])
        subst this
        rw [hx0]
        cases a with
        | none => exact run_firstCells_none w.drew n 0 0 cap
        | some ad => exact run_firstCells_some w.drew n 0 ad 0 cap [] (by simp) (by simp)
      · obtain ⟨B, o, rfl, hf⟩ := hF (by
          intro hv
          have := hr.len
          rw [hv] at this
          have h2 : 0 < xs.length * n := Nat.mul_pos hx0 hn0
          simp at this
          omega)
        exact run_firstCells_some w.drew n xs.length ⟨B, o, none⟩ xs.length cap vs hr.len (fun j u hu => by rw [add_at]; exact (hS.mem _ _ _ (hf j u hu)).1)
    have hr0 := run_append_grow_src w t tx ty e ie zv ht hie hzz a xs.length cap vs hold y ys.length news (by rw [hien]; exact hsrc) (by omega) (by omega) (growslice_fits (by omega) hbytes)
    obtain ⟨c', hc'⟩ : ∃ c', c' = grownCap w (xs.length + ys.length) cap e := ⟨_, rfl⟩
    have hge : xs.length + ys.length ≤ c' := hc' ▸ grownCap_ge w _ _ _
    rw [← hc'] at hr0
    have hlen : (vs ++ news).length = (xs.length + ys.length) * n := by rw [List.length_append, hr.len, hnl, Nat.add_mul]
    obtain ⟨arr, harr⟩ : ∃ arr : List Value, arr = (vs ++ news) ++ (Builtin.zeroCells zv.cells (c' - (xs.length + ys.length))).toList := ⟨_, rfl⟩
    have harr' : (vs ++ news).toArray ++ Builtin.zeroCells zv.cells (c' - (xs.length + ys.length)) = arr.toArray := by
      rw [harr]
      apply Array.ext'
      simp
    rw [harr'] at hr0
    have hg : Grew w (w.drew.alloc (.cells arr.toArray e)) arr e (0, 0) :=
      ⟨by simp, fun B hB => Go.heap_alloc_old w.drew _ B hB, Go.heap_alloc_new w.drew _, rfl, rfl, rfl⟩
    have hones : ∀ u ∈ vs ++ news, u.oneCell' = true := by
      intro u hu
      rcases List.mem_append.1 hu with h | h
      · exact hone u h
      · exact hsrc.one u h
    obtain ⟨hS', hgo⟩ := hS.row hg (vs ++ news) (fun i u hu => ⟨by rw [harr, List.getElem?_append_left (List.getElem?_eq_some_iff.1 hu).1]; exact hu, hones u (List.mem_of_getElem? hu)⟩)
    have hrel := Rel.mk (F := addF F w.heap.size (vs ++ news)) (L := L) (B := w.heap.size) (o := 0) (cap := c') ((hr.goes hgo).append (hrow.goes hgo)) hn0 (by simpa using hge) (fun j u hu => by rw [addF_get, if_pos rfl, Nat.zero_add]; exact hu)
    rw [List.length_append] at hrel
    refine ⟨_, _, _, hr0, hrel, hS', hgo.weaken (fun _ _ h => h.elim), ?_, fun B hB => .inr ?_⟩
    · rintro ad l c hv
      injection hv with e1 e2 e3
      injection e1 with e1
      subst e1 e2 e3
      refine ⟨rfl, hge, fun hx => absurd (hS.xlt _ hx) (by simp), fun hm => absurd (hS.ltL hm) (by simp), by simp, fun i hi => ?_, fun i hi => ?_, _, _, hg.new⟩
      · simp only [Nat.zero_add] at hi
        rw [addF_get, if_pos rfl, List.getElem?_eq_none (by omega)]
      · have hzc : (Builtin.zeroCells zv.cells (c' - (xs.length + ys.length))).toList.length = (c' - (xs.length + ys.length)) * n := by
          rw [Array.length_toList, size_zeroCells, z2]
          simp [z3, hzl]
        simp only [Nat.zero_add]
        rw [cell?_eq hg.new]
        constructor
        · have hlt : (xs.length + ys.length) * n + i < arr.length := by
            rw [harr, List.length_append, hlen, hzc]
            omega
          rw [List.getElem?_eq_getElem hlt]
          rfl
        · unfold World.frozen?
          rw [hg.new]
          simp
    · simp only [Value.ownBlock] at hB
      injection hB with hB
      omega
end
end Go.Lv
