/- A value semantics of the loaded code, its soundness, and walks through functions over it. -/
import Derived.Test.YtfkjkmjkfnephaaGreatDoorLvAll4
import Derived.Deep.Upon
import Derived.MapKept
set_option linter.unusedVariables false
set_option linter.unusedSimpArgs false
namespace Go.Lv
section
variable {P : Program} {F : Facts} {L : List Nat} {w : World} {X : Nat → Prop} {H : Heap}
structure Row (F : Facts) (L : List Nat) (n : Nat) (xs : List AV) (vs : List Value) : Prop where
 len : vs.length = xs.length * n
 each : ∀ (i : Nat) (e : AV), xs[i]? = some e → e.cells.length = n
 rel : ∀ (i : Nat) (e : AV) (k : Nat) (c : AV), xs[i]? = some e → e.cells[k]? = some c → Rel F L c (vs.getD (i * n + k) undef)
theorem Row.nil (n : Nat) : Row F L n [] [] := ⟨by simp, fun i e h => by simp at h, fun i e k c h => by simp at h⟩
theorem Row.goes {G : Nat → Prop} {F' : Facts} {L' : List Nat} {w' : World} {n : Nat} {xs : List AV} {vs : List Value} (h : Row F L n xs vs) (hg : Goes G F L w F' L' w') : Row F' L' n xs vs :=
 ⟨h.len, h.each, fun i e k c h1 h2 => (h.rel i e k c h1 h2).goes hg⟩
theorem idx_lt {i k n m : Nat} (hi : i < m) (hk : k < n) : i * n + k < m * n := by
 have : (i + 1) * n ≤ m * n := Nat.mul_le_mul_right n hi
 rw [Nat.add_mul, Nat.one_mul] at this
 omega
theorem Row.append {n : Nat} {xs ys : List AV} {us vs : List Value} (h : Row F L n xs us) (h' : Row F L n ys vs) : Row F L n (xs ++ ys) (us ++ vs) := by
 refine ⟨by simp [h.len, h'.len, Nat.add_mul], fun i e hi => ?_, fun i e k c hi hk => ?_⟩
 ·rcases Nat.lt_or_ge i xs.length with hl | hl
  ·rw [xgL hl] at hi; exact h.each i e hi
  ·rw [xgR hl] at hi; exact h'.each _ e hi
 ·rcases Nat.lt_or_ge i xs.length with hl | hl
  ·rw [xgL hl] at hi
   have hkn : k < n := h.each i e hi ▸ (xgI.1 hk).1
   have := h.rel i e k c hi hk
   rw [xgD] at this ⊢
   rw [xgL (by rw [h.len]; exact idx_lt hl hkn)]
   exact this
  ·rw [xgR hl] at hi
   have := h'.rel _ e k c hi hk
   rw [xgD] at this ⊢
   have hm : xs.length * n ≤ i * n := Nat.mul_le_mul_right n hl
   rw [xgR (by rw [h.len]; omega), h.len]
   rw [Nat.sub_mul] at this
   rwa [show i * n + k - xs.length * n = i * n - xs.length * n + k by omega]
theorem Rel.row {n : Nat} {xs : List AV} {v : Value} (hS : St P F L X w H) (h : Rel F L (.sl xs) v) (hn : ∀ a ∈ xs, a.cells.length = n) :
  ∃ a cap vs, v = .slice a xs.length cap ∧ xs.length ≤ cap ∧ (a = none → cap = 0) ∧ Row F L n xs vs ∧ (∀ u ∈ vs, u.oneCell' = true) ∧ (vs ≠ [] → ∃ B o, a = some ⟨B, o, none⟩ ∧ ∀ (j : Nat) u, vs[j]? = some u → F B (o + j) = some u) := by
 cases h with
 | sl0 a cap h => exact ⟨a, cap, [], rfl, by simp, h, Row.nil n, by simp, by simp⟩
 | sl xs B o len cap sz vals hl h0 hc hs hnn hf hr =>
  have hsz : sz = n := by
   have h0' : 0 < xs.length := by omega
   have e1 := hnn 0 _ (xgE h0')
   have e2 := hn _ (List.getElem_mem h0')
   omega
  subst hsz
  obtain ⟨vs, hvs⟩ : ∃ vs : List Value, vs = (List.range (len * sz)).map fun j => vals (j / sz) (j % sz) := ⟨_, rfl⟩
  have hget : ∀ j, j < len * sz → vs[j]? = some (vals (j / sz) (j % sz)) := by
   intro j hj
   simp [hvs, hj]
  have hF : ∀ (j : Nat) u, vs[j]? = some u → F B (o + j) = some u := by
   intro j u hu
   have hj : j < len * sz := by
    have := (xgI.1 hu).1
    simpa [hvs] using this
   rw [hget j hj] at hu
   injection hu with hu
   subst hu
   have h1 : j / sz < len := by rw [Nat.div_lt_iff_lt_mul hs]; exact hj
   have h2 : j % sz < sz := Nat.mod_lt _ hs
   have := hf _ _ h1 h2
   rw [Nat.add_assoc, Nat.mul_comm, Nat.div_add_mod] at this
   exact this
  refine ⟨_, cap, vs, by rw [hl], by omega, (fun h => by cases h), ⟨by simp [hvs, hl], hnn, fun i e k c hi hk => ?_⟩, fun u hu => ?_, fun _ => ⟨B, o, rfl, hF⟩⟩
  ·have hkn : k < sz := hnn i e hi ▸ (xgI.1 hk).1
   have hil : i < len := hl ▸ (xgI.1 hi).1
   rw [xgD, hget _ (idx_lt hil hkn)]
   have e1 : (i * sz + k) / sz = i := by rw [Nat.mul_comm, Nat.mul_add_div hs, Nat.div_eq_of_lt hkn, Nat.add_zero]
   have e2 : (i * sz + k) % sz = k := by rw [Nat.mul_comm, Nat.mul_add_mod]; exact Nat.mod_eq_of_lt hkn
   rw [e1, e2]
   exact hr i e k c hi hk
  ·obtain ⟨j, hj⟩ := List.mem_iff_getElem?.1 hu
   exact (hS.mem _ _ _ (hF j u hj)).2
theorem Rel.mk {n B o cap : Nat} {xs : List AV} {vs : List Value} (hr : Row F L n xs vs) (hn : 0 < n) (hc : xs.length ≤ cap) (hF : ∀ (j : Nat) u, vs[j]? = some u → F B (o + j) = some u) :
  Rel F L (.sl xs) (.slice (some ⟨B, o, none⟩) xs.length cap) := by
 rcases Nat.eq_zero_or_pos xs.length with h0 | h0
 ·have : xs = [] := List.eq_nil_of_length_eq_zero h0
  subst this
  exact .sl0 _ _ (by simp)
 ·refine .sl xs B o xs.length cap n (fun i k => vs.getD (i * n + k) undef) rfl h0 hc hn hr.each (fun i k hi hk => ?_) hr.rel
  have hlt : i * n + k < vs.length := by rw [hr.len]; exact idx_lt hi hk
  have := hF _ _ (getD_get hlt)
  rwa [← Nat.add_assoc] at this
theorem flat_get : ∀ (vs : List Value) (n i k : Nat) (v : Value), (∀ v ∈ vs, v.cells.size = n) → vs[i]? = some v → k < n → (vs.flatMap (·.cells.toList))[i * n + k]? = v.cells.toList[k]? := by
 intro vs
 induction vs with
 | nil => intro n i k v h hi; simp at hi
 | cons u vs ih =>
  intro n i k v h hi hk
  have hu : u.cells.toList.length = n := by simpa using h u (by simp)
  cases i with
  | zero =>
   simp at hi
   subst hi
   rw [List.flatMap_cons, Nat.zero_mul, Nat.zero_add, xgL (by omega)]
  | succ i =>
   rw [List.flatMap_cons, xgR (by rw [hu, Nat.add_mul]; omega), hu, Nat.add_mul, show i * n + 1 * n + k - n = i * n + k by omega]
   exact ih n i k v (fun v hv => h v (by simp [hv])) (by simpa using hi) hk
theorem flat_len : ∀ (vs : List Value) (n : Nat), (∀ v ∈ vs, v.cells.size = n) → (vs.flatMap (·.cells.toList)).length = vs.length * n := by
 intro vs n h
 induction vs with
 | nil => simp
 | cons u vs ih =>
  rw [List.flatMap_cons, List.length_append, ih (fun v hv => h v (by simp [hv])), Array.length_toList, h u (by simp), List.length_cons, Nat.add_mul]
  omega
theorem fill_seq {n : Nat} : ∀ (vs : List Value) (i0 : Nat) (arr : List Value), (∀ v ∈ vs, v.cells.size = n) → arr.length = (i0 + vs.length) * n →
  Instr.fill (fun i => some (i * n, n)) arr.toArray ((List.range' i0 vs.length).zip vs) = some (arr.take (i0 * n) ++ vs.flatMap (·.cells.toList)).toArray := by
 intro vs
 induction vs with
 | nil =>
  intro i0 arr h hl
  simp only [List.length_nil, Nat.add_zero] at hl
  simp [Instr.fill, List.take_of_length_le (Nat.le_of_eq hl)]
 | cons v vs ih =>
  intro i0 arr h hl
  have hv : v.cells.size = n := h v (by simp)
  have hle : i0 * n + n ≤ arr.length := by
   rw [hl, List.length_cons, Nat.add_mul, Nat.add_mul]
   omega
  simp only [List.length_cons, List.range'_succ, List.zip_cons_cons, Instr.fill]
  rw [if_neg (by simp [hv]; omega)]
  have hf := fold_put (i0 * n) v.cells.toList 0 arr.toArray (by simp [hv]; omega)
  simp only [Nat.add_zero, Array.length_toList, hv] at hf
  have he : Array.foldl (fun (cs : Array Value) (x : Value × Nat) => cs.setIfInBounds (i0 * n + x.2) x.1) arr.toArray v.cells.zipIdx = (arr.take (i0 * n) ++ v.cells.toList ++ arr.drop (i0 * n + n)).toArray := by
   apply Array.ext'
   rw [← Array.foldl_toList, Array.toList_zipIdx]
   simpa using hf
  rw [he, ih (i0 + 1) _ (fun v hv => h v (by simp [hv]))]
  ·have h1 : (arr.take (i0 * n) ++ v.cells.toList).length = (i0 + 1) * n := by
    simp [hv, Nat.add_mul]
    omega
   rw [List.take_append_of_le_length (by omega), List.take_of_length_le (by omega)]
   simp
  ·simp [hv, hl, Nat.add_mul]
   omega
theorem zipOf {ps : List (Nat × AV)} {qs : List (Nat × Value)} {len : Nat} (hp : PartsRel F L ps qs) (h : ps.map (·.1) = List.range len) : qs = (List.range' 0 (qs.map (·.2)).length).zip (qs.map (·.2)) ∧ qs.length = len := by
 have hlen : ps.length = len := by have := congrArg List.length h; simpa using this
 have hq : qs.map (·.1) = List.range len := by
  rw [← h]
  apply List.ext_getElem?
  intro i
  rw [List.getElem?_map, List.getElem?_map]
  rcases Nat.lt_or_ge i qs.length with hi | hi
  ·have hi' : i < ps.length := hp.1 ▸ hi
   rw [xgE hi, xgE hi']
   simp [(hp.2 i _ _ (xgE hi') (xgE hi)).1]
  ·rw [List.getElem?_eq_none hi, List.getElem?_eq_none (hp.1 ▸ hi)]
   rfl
 refine ⟨?_, hp.1 ▸ hlen⟩
 rw [List.length_map, ← hp.1, hlen, ← List.range_eq_range', ← hq]
 clear hq hlen h hp
 induction qs with
 | nil => rfl
 | cons q qs ih => rw [List.map_cons, List.map_cons, List.zip_cons_cons, ← ih]
theorem buildSliceA_alloc (w : World) {t : TypeId} {len : Nat} {ps : List (Nat × AV)} {qs : List (Nat × Value)} {r : AV} (hp : PartsRel F L ps qs) (h : buildSliceA P t len ps = some r) :
  ∃ e n, elemOfT P t = some e ∧ sizeT P e = some n ∧ qs.length = len ∧ (Instr.buildSlice t len qs.toArray).run P w = .ok (.slice (some ⟨w.heap.size, 0, none⟩) len len) (w.alloc (.cells ((qs.map (·.2)).flatMap (·.cells.toList)).toArray e)) := by
 unfold buildSliceA at h
 obtain ⟨e, he, h⟩ := xoB.1 h
 obtain ⟨n, hn, h⟩ := xoB.1 h
 split at h
 ·rename_i hc
  obtain ⟨hn0, hsmall, hrange, hparts, hz⟩ := hc
  injection h with h; subst h
  obtain ⟨hq, hql⟩ := zipOf hp hrange
  obtain ⟨z, hz, hzl⟩ := xoM.1 hz
  obtain ⟨zv, zarr, z1, z2, z3, z4, z5⟩ := zeroA_run (P := P) (F := F) (L := L) (w := w) hz
  have hu : P.underlying t = some (.slice e) := by
   unfold elemOfT at he
   split at he
   ·injection he with he; subst he; assumption
   ·cases he
  obtain ⟨vs, hvs⟩ : ∃ vs, vs = qs.map (·.2) := ⟨_, rfl⟩
  rw [← hvs] at hq
  have hvl : vs.length = len := by rw [hvs, List.length_map, hql]
  have hcell : ∀ (i : Nat) a v, (ps.map (·.2))[i]? = some a → vs[i]? = some v → Rel F L a v ∧ a.cells.length = n ∧ a.cells.all AV.one = true := by
   intro i a v ha hv
   rw [List.getElem?_map] at ha
   rw [hvs, List.getElem?_map] at hv
   obtain ⟨p, hp1, rfl⟩ := xoM.1 ha
   obtain ⟨q, hq1, rfl⟩ := xoM.1 hv
   exact ⟨(hp.2 i p q hp1 hq1).2, hparts p (List.mem_of_getElem? hp1)⟩
  have hpl : (ps.map (·.2)).length = len := by rw [List.length_map, hp.1, hql]
  have hsz : ∀ v ∈ vs, v.cells.size = n := by
   intro v hv
   obtain ⟨i, hi⟩ := List.mem_iff_getElem?.1 hv
   have hil : i < (ps.map (·.2)).length := by rw [hpl, ← hvl]; exact (xgI.1 hi).1
   obtain ⟨h1, h2, h3⟩ := hcell i _ v (xgE hil) hi
   rw [(h1.cellsOne h3).1, h2]
  obtain ⟨ie, hie, hzz⟩ := xoB.1 z5
  have hien : ie.size = n := by unfold sizeT at hn; simpa [hie] using hn
  obtain ⟨flat, hflat⟩ : ∃ flat, flat = vs.flatMap (·.cells.toList) := ⟨_, rfl⟩
  have hfl : flat.length = len * n := by rw [hflat, flat_len vs n hsz, hvl]
  have hrun : (Instr.buildSlice t len qs.toArray).run P w = .ok (.slice (some ⟨w.heap.size, 0, none⟩) len len) (w.alloc (.cells flat.toArray e)) := by
   rcases Nat.eq_zero_or_pos len with h0 | h0
   ·have hv0 : vs = [] := List.eq_nil_of_length_eq_zero (by omega)
    have hq0 : qs = [] := List.eq_nil_of_length_eq_zero (by omega)
    subst hv0
    simp only [List.flatMap_nil] at hflat
    subst hflat hq0 h0
    have h00 : Array.range 0 = #[] := by simp [Array.range]
    simp [Instr.buildSlice, run_underlying hu, sizeT_run hn, Instr.fill, newRow, h00]
   ·refine run_buildSlice w t e len qs.toArray flat.toArray ie zv hu hie hzz (by rw [hien]; omega) (by rw [hien]; exact Nat.mul_ne_zero (by omega) (by omega)) ?_
    rw [hien]
    have hzs : ((Array.range (len * n)).map (zv.cells[· % zv.cells.size]!)) = (((Array.range (len * n)).map (zv.cells[· % zv.cells.size]!)).toList).toArray := by rw [Array.toArray_toList]
    rw [hzs]
    simp only [List.toList_toArray]
    rw [hq, fill_seq vs 0 _ hsz (by simp [hvl])]
    simp [hflat]
  rw [hflat, hvs] at hrun
  exact ⟨e, n, he, hn, hql, hrun⟩
 ·cases h
theorem buildSliceA_run (hS : St P F L X w H) {t : TypeId} {len : Nat} {ps : List (Nat × AV)} {qs : List (Nat × Value)} {r : AV} (hp : PartsRel F L ps qs) (h : buildSliceA P t len ps = some r) :
  ∃ u w' F' n e, elemOfT P t = some e ∧ sizeT P e = some n ∧ (Instr.buildSlice t len qs.toArray).run P w = .ok u w' ∧ Rel F' L r u ∧ St P F' L X w' H ∧ Goes (fun _ => False) F L w F' L w' ∧ Own F' L X w' n u ∧ u.ownBlock = some w.heap.size ∧ w.heap.size < w'.heap.size := by
 unfold buildSliceA at h
 obtain ⟨e, he, h⟩ := xoB.1 h
 obtain ⟨n, hn, h⟩ := xoB.1 h
 split at h
 ·rename_i hc
  obtain ⟨hn0, hsmall, hrange, hparts, hz⟩ := hc
  injection h with h; subst h
  obtain ⟨hq, hql⟩ := zipOf hp hrange
  obtain ⟨z, hz, hzl⟩ := xoM.1 hz
  obtain ⟨zv, zarr, z1, z2, z3, z4, z5⟩ := zeroA_run (P := P) (F := F) (L := L) (w := w) hz
  have hu : P.underlying t = some (.slice e) := by
   unfold elemOfT at he
   split at he
   ·injection he with he; subst he; assumption
   ·cases he
  obtain ⟨vs, hvs⟩ : ∃ vs, vs = qs.map (·.2) := ⟨_, rfl⟩
  rw [← hvs] at hq
  have hvl : vs.length = len := by rw [hvs, List.length_map, hql]
  have hcell : ∀ (i : Nat) a v, (ps.map (·.2))[i]? = some a → vs[i]? = some v → Rel F L a v ∧ a.cells.length = n ∧ a.cells.all AV.one = true := by
   intro i a v ha hv
   rw [List.getElem?_map] at ha
   rw [hvs, List.getElem?_map] at hv
   obtain ⟨p, hp1, rfl⟩ := xoM.1 ha
   obtain ⟨q, hq1, rfl⟩ := xoM.1 hv
   exact ⟨(hp.2 i p q hp1 hq1).2, hparts p (List.mem_of_getElem? hp1)⟩
  have hpl : (ps.map (·.2)).length = len := by rw [List.length_map, hp.1, hql]
  have hsz : ∀ v ∈ vs, v.cells.size = n := by
   intro v hv
   obtain ⟨i, hi⟩ := List.mem_iff_getElem?.1 hv
   have hil : i < (ps.map (·.2)).length := by rw [hpl, ← hvl]; exact (xgI.1 hi).1
   obtain ⟨h1, h2, h3⟩ := hcell i _ v (xgE hil) hi
   rw [(h1.cellsOne h3).1, h2]
  obtain ⟨ie, hie, hzz⟩ := xoB.1 z5
  have hien : ie.size = n := by unfold sizeT at hn; simpa [hie] using hn
  obtain ⟨flat, hflat⟩ : ∃ flat, flat = vs.flatMap (·.cells.toList) := ⟨_, rfl⟩
  have hfl : flat.length = len * n := by rw [hflat, flat_len vs n hsz, hvl]
  have hrun : (Instr.buildSlice t len qs.toArray).run P w = .ok (.slice (some ⟨w.heap.size, 0, none⟩) len len) (w.alloc (.cells flat.toArray e)) := by
   rcases Nat.eq_zero_or_pos len with h0 | h0
   ·have hv0 : vs = [] := List.eq_nil_of_length_eq_zero (by omega)
    have hq0 : qs = [] := List.eq_nil_of_length_eq_zero (by omega)
    subst hv0
    simp only [List.flatMap_nil] at hflat
    subst hflat hq0 h0
    have h00 : Array.range 0 = #[] := by simp [Array.range]
    simp [Instr.buildSlice, run_underlying hu, sizeT_run hn, Instr.fill, newRow, h00]
   ·refine run_buildSlice w t e len qs.toArray flat.toArray ie zv hu hie hzz (by rw [hien]; omega) (by rw [hien]; exact Nat.mul_ne_zero (by omega) (by omega)) ?_
    rw [hien]
    have hzs : ((Array.range (len * n)).map (zv.cells[· % zv.cells.size]!)) = (((Array.range (len * n)).map (zv.cells[· % zv.cells.size]!)).toList).toArray := by rw [Array.toArray_toList]
    rw [hzs]
    simp only [List.toList_toArray]
    rw [hq, fill_seq vs 0 _ hsz (by simp [hvl])]
    simp [hflat]
  have hg := Grew.alloc w flat e
  have hone : ∀ u ∈ flat, u.oneCell' = true := by
   intro u hu
   rw [hflat] at hu
   obtain ⟨v, hv, hu⟩ := List.mem_flatMap.1 hu
   obtain ⟨i, hi⟩ := List.mem_iff_getElem?.1 hv
   have hil : i < (ps.map (·.2)).length := by rw [hpl, ← hvl]; exact (xgI.1 hi).1
   obtain ⟨h1, h2, h3⟩ := hcell i _ v (xgE hil) hi
   obtain ⟨h4, h5⟩ := h1.cellsOne h3
   exact allOne h3 (by simpa using h4) h5 u hu
  obtain ⟨hS', hgo⟩ := hS.row hg flat (fun i v hv => ⟨hv, hone v (List.mem_of_getElem? hv)⟩)
  have hrow : Row F L n (ps.map (·.2)) flat := by
   refine ⟨by rw [hfl, hpl], fun i a ha => ?_, fun i a k c ha hk => ?_⟩
   ·have hil : i < vs.length := by rw [hvl, ← hpl]; exact (xgI.1 ha).1
    exact (hcell i a _ ha (xgE hil)).2.1
   ·have hil : i < vs.length := by rw [hvl, ← hpl]; exact (xgI.1 ha).1
    obtain ⟨h1, h2, h3⟩ := hcell i a _ ha (xgE hil)
    have hkn : k < n := h2 ▸ (xgI.1 hk).1
    rw [hflat, xgD, flat_get vs n i k _ hsz (xgE hil) hkn, ← xgD]
    exact (h1.cellsOne h3).2 k c hk
  refine ⟨_, _, addF F w.heap.size flat, n, e, he, hn, hrun, ?_, hS', hgo, ?_, rfl, by simp⟩
  ·have hl2 : (ps.map (·.2)).length = len := hpl
   have := Rel.mk (F := addF F w.heap.size flat) (L := L) (B := w.heap.size) (o := 0) (cap := len) (hrow.goes hgo) hn0 (by omega) (fun j u hu => by rw [addF_get, if_pos rfl, Nat.zero_add]; exact hu)
   rwa [hl2] at this
  ·rintro a l c hv
   injection hv with h1 h2 h3
   injection h1 with h1
   subst h1 h2 h3
   refine ⟨rfl, Nat.le_refl _, fun hx => ?_, fun hm => ?_, by simp, fun i hi => ?_, fun i hi => by simp at hi, _, _, hg.new⟩
   ·exact absurd (hS.xlt _ hx) (by simp)
   ·exact absurd (hS.ltL hm) (by simp)
   ·simp only [Nat.zero_add] at hi
    rw [addF_get, if_pos rfl, List.getElem?_eq_none (by omega)]
 ·cases h
theorem setCells_row (B : Nat) : ∀ (vs : List Value) (o : Nat) (w : World) (arr : List Value) (t : TypeId) {fr : Nat × Nat}, w.heap[B]? = some (.cells arr.toArray t fr) → o + vs.length ≤ arr.length →
  ∃ arr' : List Value, (w.setCells B o vs).heap[B]? = some (.cells arr'.toArray t fr) ∧ arr'.length = arr.length ∧ ∀ i, arr'[i]? = if o ≤ i ∧ i < o + vs.length then vs[i - o]? else arr[i]? := by
 intro vs
 induction vs with
 | nil =>
  intro o w arr t fr h hl
  exact ⟨arr, h, rfl, fun i => by rw [if_neg (by simp)]⟩
 | cons v vs ih =>
  intro o w arr t fr h hl
  simp only [List.length_cons] at hl
  have hB : B < w.heap.size := (Array.getElem?_eq_some_iff.1 h).1
  have h1 : (w.setCell ⟨B, o, none⟩ v).heap[B]? = some (.cells (arr.set o v).toArray t fr) := by
   unfold World.setCell
   simp only [Array.getElem?_modify, h, if_true, Option.map_some]
   simp
  obtain ⟨arr', k1, k2, k3⟩ := ih (o + 1) (w.setCell ⟨B, o, none⟩ v) (arr.set o v) t h1 (by simp; omega)
  refine ⟨arr', k1, by simpa using k2, fun i => ?_⟩
  rw [k3]
  by_cases hi : o + 1 ≤ i ∧ i < o + 1 + vs.length
  ·rw [if_pos hi, if_pos (by simp; omega), show i - o = (i - (o + 1)) + 1 by omega, List.getElem?_cons_succ]
  ·rw [if_neg hi]
   by_cases hio : i = o
   ·subst hio
    rw [if_pos (by simp), List.getElem?_set_self (by omega)]
    simp
   ·rw [if_neg (by simp; omega), List.getElem?_set_ne (fun e => hio e.symm)]
theorem st_setCells (hS : St P F L X w H) {B o : Nat} {news : List Value} (hB : B ∉ L) (hF : ∀ i, o ≤ i → F B i = none)
  (hc : ∀ j, j < news.length → (w.cell? ⟨B, o + j, none⟩).isSome = true) (h1 : ∀ u ∈ news, u.oneCell' = true) :
  ∃ F', (∀ b i, F' b i = if b = B ∧ o ≤ i ∧ i < o + news.length then news[i - o]? else F b i) ∧ St P F' L X (w.setCells B o news) H ∧ Goes (fun b => b = B) F L w F' L (w.setCells B o news) := by
 obtain ⟨F', hFr, hF'⟩ : ∃ F' : Facts, F'.room = F.room ∧ ∀ b i, F' b i = if b = B ∧ o ≤ i ∧ i < o + news.length then news[i - o]? else F b i := ⟨⟨fun b i => if b = B ∧ o ≤ i ∧ i < o + news.length then news[i - o]? else F b i, F.room⟩, rfl, fun _ _ => rfl⟩
 have hsize : ∀ (vs : List Value) (o : Nat) (w : World), (w.setCells B o vs).heap.size = w.heap.size := by
  intro vs
  induction vs with
  | nil => intro o w; rfl
  | cons v vs ih => intro o w; rw [World.setCells, ih]; simp [World.setCell]
 have hother : ∀ i, i < w.heap.size → i ≠ B → (w.setCells B o news).heap[i]? = w.heap[i]? := fun i hi hne => World.heap_setCells_other w B o news hi hne
 have hmono : ∀ b i v, F b i = some v → F' b i = some v := by
  intro b i v h
  rw [hF']
  split
  ·rename_i hh
   obtain ⟨rfl, h2, h3⟩ := hh
   rw [hF i h2] at h
   cases h
  ·exact h
 have htape : ∀ (vs : List Value) (o : Nat) (w : World), (w.setCells B o vs).tape = w.tape := by
  intro vs
  induction vs with
  | nil => intro o w; rfl
  | cons v vs ih => intro o w; rw [World.setCells, ih]; simp [World.setCell]
 have hgo : Goes (fun b => b = B) F L w F' L (w.setCells B o news) :=
  ⟨by rw [hsize]; exact Nat.le_refl _, fun b hb hg hL => ⟨hother b hb hg, fun i => by rw [hF', if_neg (fun h => hg h.1)]⟩, hmono, fun _ _ h => h, fun _ h => .inl h,
   ⟨World.os_setCells w B o news, htape news o w, World.output_setCells w B o news⟩, fun b => by rw [hFr]; exact Nat.le_refl _⟩
 refine ⟨F', hF', ⟨fun b i v h => ?_, hS.len, fun j cs b hj hne hmv hb => ?_, fun b hb => by rw [hsize]; exact hS.lt b hb, fun j cs b hj hne hb i hi => ?_, hS.nox, hS.inj, fun b hb => by rw [hsize]; exact hS.xlt b hb, fun b hb => by rw [hFr]; exact hS.room0 b (by rw [hsize] at hb; exact hb), fun j ks vs b hj hb => ?_, fun j cs b hj hpl hb => by rw [hFr]; exact hS.rm j cs b hj hpl hb⟩, hgo⟩
 ·rw [hF'] at h
  split at h
  ·rename_i hh
   obtain ⟨rfl, h2, h3⟩ := hh
   have hlt : i - o < news.length := by omega
   have := World.cell?_setCells_in b news o w hc (i - o) hlt
   rw [show o + (i - o) = i by omega] at this
   rw [xgE hlt] at h
   injection h with h
   subst h
   exact ⟨this, h1 _ (List.getElem_mem hlt)⟩
  ·rename_i hh
   obtain ⟨h2, h3⟩ := hS.mem _ _ _ h
   exact ⟨by rw [World.cell?_setCells_out B news o w ⟨b, i, none⟩ (fun e _ => by simp only at e ⊢; omega)]; exact h2, h3⟩
 ·obtain ⟨arr, t, h2, h3, h4, h5⟩ := hS.obj j cs b hj hne hmv hb
  exact ⟨arr, t, h2.same (hother b (hS.ltL (mem_of_get hb)) (fun e => hB (e ▸ mem_of_get hb))), h3, by rw [hFr]; exact h4, fun k c hk => (h5 k c hk).goes hgo⟩
 ·rw [hF', if_neg (fun (h : b = B ∧ _) => hB (h.1 ▸ mem_of_get hb))]
  exact hS.nof j cs b hj hne hb i hi
 ·exact (hS.mob j ks vs b hj hb).goes hgo (hother b (hS.ltL (mem_of_get hb)) (fun e => hB (e ▸ mem_of_get hb)))
theorem append_run (hS : St P F L X w H) {t tx ty e : TypeId} {n by_ : Nat} {z : List AV} {xs ys : List AV} {v y : Value} {news : List Value} {m : Nat}
  (ht : P.underlying t = some (.slice e)) (hn : sizeT P e = some n) (hby : bytesT P e = some by_) (hz : zeroA P e = some z) (hzl : z.length = n) (hn0 : 0 < n)
  (hx : Rel F L (.sl xs) v) (hxn : ∀ a ∈ xs, a.cells.length = n) (hown : Own F L X w n v)
  (hsrc : Src P n tx y m news w) (hrow : Row F L n ys news) (hm : ys.length = m) (hle : (xs.length + m) * (by_ + 1) ≤ 140737488355328) :
  ∃ u w' F', (Builtin.append_ #[t, tx] ty #[v, y]).run P w = .ok u w' ∧ Rel F' L (.sl (xs ++ ys)) u ∧ St P F' L X w' H ∧ Goes (fun B => v.ownBlock = some B) F L w F' L w' ∧ Own F' L X w' n u ∧
   (∀ B, u.ownBlock = some B → v.ownBlock = some B ∨ w.heap.size ≤ B) := by
 obtain ⟨ie, hie, hien⟩ : ∃ ie, P.info? e = some ie ∧ ie.size = n := by
  unfold sizeT at hn
  obtain ⟨ie, h1, h2⟩ := xoM.1 hn
  exact ⟨ie, h1, h2⟩
 have hieb : ie.bytes = by_ := by unfold bytesT at hby; simpa [hie] using hby
 obtain ⟨zv, zarr, z1, z2, z3, z4, z5⟩ := zeroA_run (P := P) (F := F) (L := L) (w := w) hz
 have hzz : ie.zero = some zv := by simpa [hie] using z5
 obtain ⟨a, cap, vs, rfl, hc, hnone, hr, hone, hF⟩ := hx.row hS hxn
 have hml : xs.length + m ≤ 140737488355328 := Nat.le_trans (Nat.le_mul_of_pos_right _ (by omega)) hle
 have hnl : news.length = m * n := hsrc.newsLen
 have hbytes : (xs.length + m) * ie.bytes ≤ 140737488355328 := by
  rw [hieb]
  rw [Nat.mul_add, Nat.mul_one] at hle
  omega
 subst hm
 rcases Nat.eq_zero_or_pos ys.length with h0 | h0
 ·have hy : ys = [] := List.eq_nil_of_length_eq_zero h0
  subst hy
  have hnews : news = [] := List.eq_nil_of_length_eq_zero (by simpa using hnl)
  subst hnews
  have hr0 := run_append_nothing w t tx ty e ie ht hie a xs.length cap hc y (by rw [hien]; exact hsrc)
  refine ⟨_, w, F, hr0, by rw [List.append_nil]; exact hx, hS, Goes.refl _ F L w, hown, fun B hB => .inl hB⟩
 by_cases hroom : xs.length + ys.length ≤ cap
 ·-- there is room
  obtain ⟨⟨B, o, sp⟩, rfl⟩ : ∃ ad, a = some ad := by
   cases a with
   | none => have := hnone rfl; omega
   | some ad => exact ⟨ad, rfl⟩
  obtain ⟨h1, h2, h3, h4, h5, h6, h7, arr0, t0, h8⟩ := hown _ _ _ rfl
  simp only at h1 h3 h4 h5 h6 h7 h8
  subst h1
  have hfit : ∀ j, j < news.length → j < (cap - xs.length) * n := by
   intro j hj
   have : ys.length * n ≤ (cap - xs.length) * n := Nat.mul_le_mul_right n (by omega)
   omega
  have hr0 := run_append_room_src w t tx ty e ie ht hie B o xs.length cap y ys.length news (by rw [hien]; exact hsrc) hroom
   (fun j hj => by rw [hien]; exact (h7 j (hfit j hj)).1) (fun j hj => by rw [hien]; exact (h7 j (hfit j hj)).2)
  rw [hien] at hr0
  obtain ⟨F', hF', hS', hgo⟩ := st_setCells hS (o := o + xs.length * n) (news := news) h4 h6 (fun j hj => (h7 j (hfit j hj)).1) hsrc.one
  have hrow' : Row F' L n (xs ++ ys) (vs ++ news) := (hr.goes hgo).append (hrow.goes hgo)
  have hrel : Rel F' L (.sl (xs ++ ys)) (.slice (some ⟨B, o, none⟩) (xs ++ ys).length cap) := by
   refine Rel.mk hrow' hn0 (by simpa using hroom) (fun j u hu => ?_)
   rcases Nat.lt_or_ge j vs.length with hj | hj
   ·rw [xgL hj] at hu
    obtain ⟨B', o', he, hf⟩ := hF (by intro hv; rw [hv] at hj; simp at hj)
    injection he with he
    injection he with he1 he2
    subst he1 he2
    exact hgo.mono _ _ _ (hf j u hu)
   ·rw [xgR hj, hr.len] at hu
    have hjl := (xgI.1 hu).1
    have hvl := hr.len
    rw [hF', if_pos ⟨rfl, by omega, by omega⟩, ← hu]
    congr 1
    omega
  rw [List.length_append] at hrel
  refine ⟨_, _, F', hr0, hrel, hS', hgo.weaken (fun b _ hb => by simp [Value.ownBlock, hb]), ?_, fun b hb => .inl hb⟩
  rintro ad l c hv
  injection hv with e1 e2 e3
  injection e1 with e1
  subst e1 e2 e3
  have hfit0 : o + xs.length * n + news.length ≤ arr0.length ∨ news = [] := by
   rcases Nat.eq_zero_or_pos news.length with h0 | h0
   ·exact .inr (List.eq_nil_of_length_eq_zero h0)
   ·refine .inl ?_
    have := (h7 (news.length - 1) (hfit _ (by omega))).1
    rw [cell?_eq h8] at this
    have hlt : o + xs.length * n + (news.length - 1) < arr0.length := by
     rcases Nat.lt_or_ge (o + xs.length * n + (news.length - 1)) arr0.length with h | h
     ·exact h
     ·rw [List.getElem?_eq_none h] at this; cases this
    omega
  have hshape : ∃ (arr : List Value) (t : TypeId), (w.setCells B (o + xs.length * n) news).heap[B]? = some (.cells arr.toArray t (0, 0)) := by
   rcases hfit0 with h | h
   ·obtain ⟨arr', k1, _⟩ := setCells_row B news _ w arr0 t0 h8 h
    exact ⟨arr', t0, k1⟩
   ·rw [h]; exact ⟨arr0, t0, h8⟩
  refine ⟨rfl, hroom, h3, h4, ?_, fun i hi => ?_, fun i hi => ?_, hshape⟩
  ·exact Nat.lt_of_lt_of_le h5 hgo.size
  ·simp only at hi
   rw [Nat.add_mul] at hi
   rw [hF', if_neg (by rintro ⟨_, _, h⟩; omega)]
   exact h6 i (by omega)
  ·have hlt : ys.length * n + i < (cap - xs.length) * n := by
    have : (cap - (xs.length + ys.length)) * n + ys.length * n = (cap - xs.length) * n := by rw [← Nat.add_mul]; congr 1; omega
    omega
   have := h7 _ hlt
   simp only
   rw [World.cell?_setCells_out B news _ w _ (fun _ _ => by simp only; rw [Nat.add_mul]; omega), World.frozen?_setCells, Nat.add_mul]
   rwa [show o + (xs.length * n + ys.length * n) + i = o + xs.length * n + (ys.length * n + i) by omega]
 ·-- a new row
  have hold : (Builtin.firstCells ie.size xs.length (.slice a xs.length cap)).run P w.drew = .ok vs.toArray w.drew := by
   rw [hien]
   rcases Nat.eq_zero_or_pos xs.length with hx0 | hx0
   ·have : vs = [] := List.eq_nil_of_length_eq_zero (by rw [hr.len, hx0, Nat.zero_mul])
    subst this
    rw [hx0]
    cases a with
    | none => exact run_firstCells_none w.drew n 0 0 cap
    | some ad => exact run_firstCells_some w.drew n 0 ad 0 cap [] (by simp) (by simp)
   ·obtain ⟨B, o, rfl, hf⟩ := hF (by
     intro hv
     have := hr.len
     rw [hv] at this
     have h2 : 0 < xs.length * n := Nat.mul_pos hx0 hn0
     simp at this
     omega)
    exact run_firstCells_some w.drew n xs.length ⟨B, o, none⟩ xs.length cap vs hr.len (fun j u hu => by rw [add_at]; exact (hS.mem _ _ _ (hf j u hu)).1)
  have hr0 := run_append_grow_src w t tx ty e ie zv ht hie hzz a xs.length cap vs hold y ys.length news (by rw [hien]; exact hsrc) (by omega) (by omega) (growslice_fits (by omega) hbytes)
  obtain ⟨c', hc'⟩ : ∃ c', c' = grownCap w (xs.length + ys.length) cap e := ⟨_, rfl⟩
  have hge : xs.length + ys.length ≤ c' := hc' ▸ grownCap_ge w _ _ _
  rw [← hc'] at hr0
  have hlen : (vs ++ news).length = (xs.length + ys.length) * n := by rw [List.length_append, hr.len, hnl, Nat.add_mul]
  obtain ⟨arr, harr⟩ : ∃ arr : List Value, arr = (vs ++ news) ++ (Builtin.zeroCells zv.cells (c' - (xs.length + ys.length))).toList := ⟨_, rfl⟩
  have harr' : (vs ++ news).toArray ++ Builtin.zeroCells zv.cells (c' - (xs.length + ys.length)) = arr.toArray := by
   rw [harr]
   apply Array.ext'
   simp
  rw [harr'] at hr0
  have hg : Grew w (w.drew.alloc (.cells arr.toArray e)) arr e (0, 0) :=
   ⟨by simp, fun B hB => Go.heap_alloc_old w.drew _ B hB, Go.heap_alloc_new w.drew _, rfl, rfl, rfl⟩
  have hones : ∀ u ∈ vs ++ news, u.oneCell' = true := by
   intro u hu
   rcases List.mem_append.1 hu with h | h
   ·exact hone u h
   ·exact hsrc.one u h
  obtain ⟨hS', hgo⟩ := hS.row hg (vs ++ news) (fun i u hu => ⟨by rw [harr, xgL (xgI.1 hu).1]; exact hu, hones u (List.mem_of_getElem? hu)⟩)
  have hrel := Rel.mk (F := addF F w.heap.size (vs ++ news)) (L := L) (B := w.heap.size) (o := 0) (cap := c') ((hr.goes hgo).append (hrow.goes hgo)) hn0 (by simpa using hge) (fun j u hu => by rw [addF_get, if_pos rfl, Nat.zero_add]; exact hu)
  rw [List.length_append] at hrel
  refine ⟨_, _, _, hr0, hrel, hS', hgo.weaken (fun _ _ h => h.elim), ?_, fun B hB => .inr ?_⟩
  ·rintro ad l c hv
   injection hv with e1 e2 e3
   injection e1 with e1
   subst e1 e2 e3
   refine ⟨rfl, hge, fun hx => absurd (hS.xlt _ hx) (by simp), fun hm => absurd (hS.ltL hm) (by simp), by simp, fun i hi => ?_, fun i hi => ?_, _, _, hg.new⟩
   ·simp only [Nat.zero_add] at hi
    rw [addF_get, if_pos rfl, List.getElem?_eq_none (by omega)]
   ·have hzc : (Builtin.zeroCells zv.cells (c' - (xs.length + ys.length))).toList.length = (c' - (xs.length + ys.length)) * n := by
     rw [Array.length_toList, size_zeroCells, z2]
     simp [z3, hzl]
    simp only [Nat.zero_add]
    rw [cell?_eq hg.new]
    constructor
    ·have hlt : (xs.length + ys.length) * n + i < arr.length := by
      rw [harr, List.length_append, hlen, hzc]
      omega
     rw [xgE hlt]
     rfl
    ·unfold World.frozen?
     rw [hg.new]
     simp
  ·simp only [Value.ownBlock] at hB
   injection hB with hB
   omega
end
end Go.Lv
set_option linter.unusedVariables false
set_option linter.unusedSimpArgs false
namespace Go.Lv
section
variable {P : Program} {F : Facts} {L : List Nat} {w : World} {H : Heap} {X : Nat → Prop}
theorem isKey_of {t : TypeId} {k : AV} {kv : Value} (h : keyKind P t k = true) (hr : Rel F L k kv) : ∃ d, P.underlying t = some d ∧ MapKept.IsKey d kv ∧ k = .v kv := by
 unfold keyKind at h
 split at h
 ·rename_i s hu
  obtain ⟨rfl, _⟩ := hr.v_eq
  exact ⟨_, hu, trivial, rfl⟩
 ·rename_i ik k' n hu
  obtain ⟨rfl, _⟩ := hr.v_eq
  exact ⟨_, hu, (show k' = ik by simpa using h), rfl⟩
 ·cases h
theorem bytes_beq' (x y : ByteArray) : (x == y) = true ↔ x = y := by
 constructor
 ·intro h
  have e : x.data = y.data := by
   have : (x.data == y.data) = true := h
   simpa using this
  cases x; cases y; simpa using e
 ·intro h; subst h
  show (x.data == x.data) = true
  simp
theorem sameNow_of {d : TypeDesc} {k k' : AV} {kv kv' : Value} {b : Bool} (hk : MapKept.IsKey d kv) (hkv : k = .v kv) (hr' : Rel F L k' kv') (h : keyEq k k' = some b) : Instr.sameNow d kv kv' = some b ∧ (b = true → kv = kv') := by
 subst hkv
 unfold keyEq at h
 split at h
 ·rename_i a c hh
  injection hh with hh; subst hh
  obtain ⟨rfl, _⟩ := hr'.v_eq
  injection h with h
  cases d <;> simp [MapKept.IsKey] at hk
  refine ⟨by simp [Instr.sameNow, h], fun hb => ?_⟩
  rw [hb] at h
  exact congrArg Value.string ((bytes_beq' a c).1 h)
 ·rename_i k1 a k2 c hh
  injection hh with hh; subst hh
  obtain ⟨rfl, _⟩ := hr'.v_eq
  split at h
  ·rename_i he
   injection h with h
   subst he
   cases d <;> simp [MapKept.IsKey] at hk
   refine ⟨by simp [Instr.sameNow, h], fun hb => ?_⟩
   rw [hb] at h
   congr 1
   simpa using h
  ·cases h
 ·cases h
theorem keyEq_some {d : TypeDesc} {k : AV} {kv : Value} (hk : MapKept.IsKey d kv) (hkv : k = .v kv) {ks : List AV} {fs : List MapEntry} (hl : ks.length = fs.length) (hr : ∀ (j : Nat) k', ks[j]? = some k' → ∃ e, fs[j]? = some e ∧ Rel F L k' e.key)
  (h : ks.all (fun k'' => (keyEq k k'').isSome) = true) : ∀ e ∈ fs, ∃ b, Instr.sameNow d kv e.key = some b ∧ (b = true → kv = e.key) := by
 intro e he
 obtain ⟨j, hj⟩ := List.mem_iff_getElem?.1 he
 have hjl := (xgI.1 hj).1
 have hkj : ks[j]? = some ks[j] := xgE (by omega)
 obtain ⟨e', he', hre⟩ := hr j _ hkj
 rw [hj] at he'; injection he' with he'; subst he'
 have := List.all_eq_true.1 h _ (List.mem_of_getElem? hkj)
 obtain ⟨b, hb⟩ := Option.isSome_iff_exists.1 this
 exact ⟨b, sameNow_of hk hkv hre hb⟩
theorem findK_run {d : TypeDesc} {k : AV} {kv : Value} (hk : MapKept.IsKey d kv) (hkv : k = .v kv) : ∀ (ks : List AV) (fs : List MapEntry) (i : Nat) (r : Option Nat), ks.length = fs.length →
  (∀ (j : Nat) k', ks[j]? = some k' → ∃ e, fs[j]? = some e ∧ Rel F L k' e.key) → findK k ks i = some r →
  (∀ e ∈ fs, ∃ b, Instr.sameNow d kv e.key = some b ∧ (b = true → kv = e.key)) ∧
  ((r = none ∧ ∀ e ∈ fs, Instr.sameNow d kv e.key = some false) ∨ ∃ idx e, r = some (i + idx) ∧ fs[idx]? = some e ∧ e.key = kv) := by
 intro ks
 induction ks with
 | nil =>
  intro fs i r hl hr h
  injection h with h; subst h
  have : fs = [] := List.eq_nil_of_length_eq_zero (by simpa using hl.symm)
  subst this
  exact ⟨by simp, .inl ⟨rfl, by simp⟩⟩
 | cons k' ks ih =>
  intro fs i r hl hr h
  cases fs with
  | nil => simp at hl
  | cons e fs =>
   obtain ⟨e', he', hre⟩ := hr 0 k' rfl
   injection he' with he'; subst he'
   unfold findK at h
   cases hq : keyEq k k' with
   | none => rw [hq] at h; cases h
   | some b =>
    rw [hq] at h
    obtain ⟨s1, s2⟩ := sameNow_of hk hkv hre hq
    cases b with
    | true =>
     simp only at h
     split at h
     ·rename_i hall
      injection h with h; subst h
      have := keyEq_some (ks := ks) (fs := fs) hk hkv (by simpa using hl) (fun j k'' hj => hr (j + 1) k'' hj) hall
      refine ⟨fun x hx => ?_, .inr ⟨0, e, rfl, rfl, (s2 rfl).symm⟩⟩
      rcases List.mem_cons.1 hx with rfl | hx
      ·exact ⟨true, s1, s2⟩
      ·exact this x hx
     ·cases h
    | false =>
     obtain ⟨h0, h1⟩ := ih fs (i + 1) r (by simpa using hl) (fun j k'' hj => hr (j + 1) k'' hj) h
     refine ⟨fun x hx => ?_, ?_⟩
     ·rcases List.mem_cons.1 hx with rfl | hx
      ·exact ⟨false, s1, s2⟩
      ·exact h0 x hx
     ·rcases h1 with ⟨h1, h2⟩ | ⟨idx, e2, h1, h2, h3⟩
      ·refine .inl ⟨h1, fun x hx => ?_⟩
       rcases List.mem_cons.1 hx with rfl | hx
       ·exact s1
       ·exact h2 x hx
      ·exact .inr ⟨idx + 1, e2, by rw [h1]; congr 1; omega, by simpa using h2, h3⟩
theorem sameNow_self {d : TypeDesc} {kv : Value} (hk : MapKept.IsKey d kv) : Instr.sameNow d kv kv = some true := by
 cases kv <;> first | (cases d <;> exact hk.elim) | skip
 all_goals (cases d <;> first | exact hk.elim | skip)
 all_goals simp [MapKept.IsKey] at hk
 all_goals simp [Instr.sameNow]
 exact (bytes_beq' _ _).2 rfl
theorem findNow_none {d : TypeDesc} {kv : Value} : ∀ (es : List MapEntry) (i : Nat), (∀ e ∈ es, Instr.sameNow d kv e.key = some false) → Instr.findNow d kv es i = some none := by
 intro es
 induction es with
 | nil => intro i _; rfl
 | cons e es ih =>
  intro i h
  simp only [Instr.findNow, h e (by simp)]
  exact ih _ (fun x hx => h x (by simp [hx]))
theorem findNow_some {d : TypeDesc} {kv : Value} (hk : MapKept.IsKey d kv) : ∀ (es : List MapEntry) (i : Nat) (e : MapEntry), e ∈ es → e.key = kv → (∀ x ∈ es, ∃ b, Instr.sameNow d kv x.key = some b ∧ (b = true → kv = x.key)) → (es.map (·.key)).Nodup →
  ∃ idx, es[idx]? = some e ∧ Instr.findNow d kv es i = some (some (i + idx, e.val)) := by
 intro es
 induction es with
 | nil => intro i e he; simp at he
 | cons x es ih =>
  intro i e he hek h hnd
  obtain ⟨b, hb1, hb2⟩ := h x (by simp)
  rw [List.map_cons, List.nodup_cons] at hnd
  cases b with
  | true =>
   have hx := hb2 rfl
   rcases List.mem_cons.1 he with rfl | he
   ·exact ⟨0, rfl, by simp [Instr.findNow, hb1]⟩
   ·exact absurd (List.mem_map.2 ⟨e, he, by rw [hek, hx]⟩) hnd.1
  | false =>
   rcases List.mem_cons.1 he with rfl | he
   ·rw [hek, sameNow_self hk] at hb1; cases hb1
   ·obtain ⟨idx, h1, h2⟩ := ih (i + 1) e he hek (fun y hy => h y (by simp [hy])) hnd.2
    exact ⟨idx + 1, by simpa using h1, by simp [Instr.findNow, hb1, h2]; omega⟩
theorem find_both {d : TypeDesc} {k : AV} {kv : Value} (hk : MapKept.IsKey d kv) (hkv : k = .v kv) {ks : List AV} {es fs : List MapEntry} {r : Option Nat} (hpm : fs.Perm es) (hnd : (es.map (·.key)).Nodup) (hl : ks.length = fs.length)
  (hr : ∀ (j : Nat) k', ks[j]? = some k' → ∃ e, fs[j]? = some e ∧ Rel F L k' e.key) (h : findK k ks 0 = some r) :
  (r = none ∧ Instr.findNow d kv es 0 = some none ∧ ∀ e ∈ es, e.key ≠ kv) ∨ ∃ idx idx' e, r = some idx ∧ fs[idx]? = some e ∧ es[idx']? = some e ∧ e.key = kv ∧ Instr.findNow d kv es 0 = some (some (idx', e.val)) := by
 obtain ⟨h0, h1⟩ := findK_run hk hkv ks fs 0 r hl hr h
 rcases h1 with ⟨h1, h2⟩ | ⟨idx, e, h1, h2, h3⟩
 ·have h2' : ∀ e ∈ es, Instr.sameNow d kv e.key = some false := fun e he => h2 e (hpm.mem_iff.2 he)
  refine .inl ⟨h1, findNow_none es 0 h2', fun e he hek => ?_⟩
  have := h2' e he
  rw [hek, sameNow_self hk] at this
  cases this
 ·obtain ⟨idx', k1, k2⟩ := findNow_some hk es 0 e (hpm.mem_iff.1 (List.mem_of_getElem? h2)) h3 (fun x hx => h0 x (hpm.mem_iff.2 hx)) hnd
  rw [Nat.zero_add] at k2 h1
  exact .inr ⟨idx, idx', e, h1, h2, k1, h3, k2⟩
theorem cons_erase {α : Type} : ∀ (l : List α) (i : Nat) (x : α), l[i]? = some x → (x :: l.eraseIdx i).Perm l := by
 intro l
 induction l with
 | nil => intro i x h; simp at h
 | cons y l ih =>
  intro i x h
  cases i with
  | zero => injection h with h; subst h; exact List.Perm.refl _
  | succ i => exact (List.Perm.swap y x _).trans ((ih i x (by simpa using h)).cons y)
theorem set_erase {α : Type} : ∀ (l : List α) (i : Nat) (x : α), i < l.length → (l.set i x).Perm (x :: l.eraseIdx i) := by
 intro l
 induction l with
 | nil => intro i x h; simp at h
 | cons y l ih =>
  intro i x h
  cases i with
  | zero => exact List.Perm.refl _
  | succ i => exact ((ih i x (by simpa using h)).cons y).trans (List.Perm.swap x y _)
theorem perm_erase {α : Type} {fs es : List α} {i j : Nat} {e : α} (h : fs.Perm es) (hi : fs[i]? = some e) (hj : es[j]? = some e) : (fs.eraseIdx i).Perm (es.eraseIdx j) :=
 (List.perm_cons e).1 (((cons_erase fs i e hi).trans h).trans (cons_erase es j e hj).symm)
theorem perm_set {α : Type} {fs es : List α} {i j : Nat} {e x : α} (h : fs.Perm es) (hi : fs[i]? = some e) (hj : es[j]? = some e) : (fs.set i x).Perm (es.set j x) :=
 ((set_erase fs i x (xgI.1 hi).1).trans ((perm_erase h hi hj).cons x)).trans (set_erase es j x (xgI.1 hj).1).symm
theorem List.set_getElem?_self' {α : Type} {l : List α} {j : Nat} {x : α} (h : l[j]? = some x) : l.set j x = l := by
 apply List.ext_getElem?
 intro i
 rw [List.getElem?_set]
 split
 ·rename_i hi; subst hi; rw [if_pos (xgI.1 h).1, h]
 ·rfl
theorem mapTy_some {t kt et : TypeId} (h : mapTy P t = some (kt, et)) : P.underlying t = some (.map kt et) := by
 unfold mapTy at h
 split at h
 ·injection h with h; injection h with h1 h2; subst h1 h2; assumption
 ·cases h
theorem mapOf_some {j : Nat} {ks vs : List AV} (h : mapOf H j = some (ks, vs)) : H[j]? = some [.mv ks vs] := by
 unfold mapOf at h
 split at h
 ·injection h with h; injection h with h1 h2; subst h1 h2; assumption
 ·cases h
theorem zeroV_run {t : TypeId} {z : AV} (h : zeroV P t = some z) : ∃ v, (zeroValue t).run P w = .ok v w ∧ Rel F L z v := by
 unfold zeroV at h
 obtain ⟨v, hv, rfl⟩ := xoM.1 h
 obtain ⟨i, hi, hz⟩ := xoB.1 hv
 refine ⟨v, ?_, lit_rel F L v⟩
 simp [zeroValue, typeInfo, hi, hz, Result.andThen]
theorem checkPart1_run {kt : TypeId} {a b : AV} {r : Bool} {x : Value} {n : Nat} {e : Bool} (h : eqA1 P kt a b = some r) (ha : Rel F L a x) : (Instr.checkKey e (n + 2) kt x).run P w = .ok () w := by
 unfold eqA1 at h
 split at h
 ·rename_i k i x' j y' hu
  obtain ⟨rfl, _⟩ := ha.v_eq
  simp [Instr.checkKey, run_underlying hu]
 ·rename_i x' y' hu
  obtain ⟨rfl, _⟩ := ha.v_eq
  simp [Instr.checkKey, run_underlying hu]
 ·rename_i x' y' hu
  obtain ⟨rfl, _⟩ := ha.v_eq
  simp [Instr.checkKey, run_underlying hu]
 ·rename_i len el xs ys hu
  split at h
  ·rename_i k he
   split at h
   ·rename_i hc
    obtain ⟨c1, c2, c3⟩ := hc
    cases ha with
    | agg _ us hul hur =>
     have hs := sizeT_run (w := w) c1
     have key : ∀ (m i : Nat), i + m ≤ us.length → (do
       for i in List.range' i m do Instr.checkKey e (n + 1) el (← part el us.toArray (i * (← sizeOf el))) : Sem Unit).run P w = .ok () w := by
      intro m
      induction m with
      | zero => intro i _; simp
      | succ m ih =>
       intro i hi
       have hxi : xs[i]? = some xs[i] := xgE (by omega)
       have hg : us.toArray[i]? = some (us.getD i undef) := by
        rw [List.getElem?_toArray, xgD, xgE (by omega)]; rfl
       have hck : ∀ v, (Instr.checkKey e (n + 1) el v).run P w = .ok () w := fun v => by
        unfold Instr.checkKey
        simp only [Sem.run_bind, run_underlying he, Result.andThen_ok]
        rfl
       rw [List.range'_succ]
       simp only [List.forIn_cons, Sem.run_bind, hs, Nat.mul_one, part_int he hg, Result.andThen_ok, hck]
       have h' := ih (i + 1) (by omega)
       simp at h' ⊢
       first | (rw [h']; done) | (rw [h']; rfl) | exact h'
     unfold Instr.checkKey
     simp only [Sem.run_bind, run_underlying hu, Result.andThen_ok]
     rw [Std.Legacy.Range.forIn_eq_forIn_range']
     have h' := key len 0 (by omega)
     simp at h' ⊢
     first | (rw [h']; done) | (rw [h']; rfl) | exact h'
   ·cases h
  ·cases h
 ·cases h
theorem checkF1_run {xs ys : List AV} {us : List Value} {n : Nat} {e : Bool} (hul : us.length = xs.length) (hx : ∀ (j : Nat) c, xs[j]? = some c → Rel F L c (us.getD j undef)) :
  ∀ (fs : List Field) (r : Bool), eqF1 P xs ys fs = some r → (do
   for f in fs do
    if f.name ≠ "_" then Instr.checkKey e (n + 2) f.type (← part f.type us.toArray f.offset) : Sem Unit).run P w = .ok () w := by
 intro fs
 induction fs with
 | nil => intro r h; simp
 | cons f fs ih =>
  intro r h
  unfold eqF1 at h
  split at h
  ·cases h
  ·rename_i hn
   obtain ⟨a, ha, h⟩ := xoB.1 h
   obtain ⟨b, hb, h⟩ := xoB.1 h
   obtain ⟨t, ht, h⟩ := xoB.1 h
   obtain ⟨u, hu, rfl⟩ := xoM.1 h
   obtain ⟨x, hx1, hx2⟩ := part_run (P := P) (w := w) hul hx ha
   have he := checkPart1_run (w := w) (n := n) (e := e) ht hx2
   have h' := ih u hu
   simp only [List.forIn_cons, Sem.run_bind, hx1, he, Result.andThen_ok, ne_eq, hn, not_false_eq_true, if_true]
   simp at h' ⊢
   first | (rw [h']; done) | (rw [h']; rfl) | exact h'
theorem checkPart_run {kt : TypeId} {a b : AV} {r : Bool} {x : Value} {n : Nat} {e : Bool} (h : eqA2 P kt a b = some r) (ha : Rel F L a x) : (Instr.checkKey e (n + 3) kt x).run P w = .ok () w := by
 unfold eqA2 at h
 split at h
 ·rename_i fs xs ys hu
  split at h
  ·rename_i hsi
   cases ha with
   | agg _ us hul hur =>
    have h' := checkF1_run (P := P) (w := w) (n := n) (e := e) hul hur fs.toList r h
    unfold Instr.checkKey
    simp only [Sem.run_bind, run_underlying hu, Result.andThen_ok]
    simp at h' ⊢
    first | (rw [h']; done) | (rw [h']; rfl) | exact h'
  ·cases h
 ·exact checkPart1_run (n := n + 1) h ha
theorem checkFs_run {xs ys : List AV} {us : List Value} {n : Nat} {e : Bool} (hul : us.length = xs.length) (hx : ∀ (j : Nat) c, xs[j]? = some c → Rel F L c (us.getD j undef)) :
  ∀ (fs : List Field) (r : Bool), eqFs P xs ys fs = some r → (do
   for f in fs do
    if f.name ≠ "_" then Instr.checkKey e (n + 3) f.type (← part f.type us.toArray f.offset) : Sem Unit).run P w = .ok () w := by
 intro fs
 induction fs with
 | nil => intro r h; simp
 | cons f fs ih =>
  intro r h
  unfold eqFs at h
  split at h
  ·cases h
  ·rename_i hn
   obtain ⟨a, ha, h⟩ := xoB.1 h
   obtain ⟨b, hb, h⟩ := xoB.1 h
   obtain ⟨t, ht, h⟩ := xoB.1 h
   obtain ⟨u, hu, rfl⟩ := xoM.1 h
   obtain ⟨x, hx1, hx2⟩ := part_run (P := P) (w := w) hul hx ha
   have he := checkPart_run (w := w) (n := n) (e := e) ht hx2
   have h' := ih u hu
   simp only [List.forIn_cons, Sem.run_bind, hx1, he, Result.andThen_ok, ne_eq, hn, not_false_eq_true, if_true]
   simp at h' ⊢
   first | (rw [h']; done) | (rw [h']; rfl) | exact h'
theorem checkG_run {kt : TypeId} {fs : Array Field} {xs ys : List AV} {x : Value} {r : Bool} {e : Bool} (hu : P.underlying kt = some (.struct fs)) (h : eqFs P xs ys fs.toList = some r) (ha : Rel F L (.agg xs) x) : (Instr.checkKey e 10000 kt x).run P w = .ok () w := by
 cases ha with
 | agg _ us hul hur =>
  have h' := checkFs_run (P := P) (w := w) (n := 9996) (e := e) hul hur fs.toList r h
  unfold Instr.checkKey
  simp only [Sem.run_bind, run_underlying hu, Result.andThen_ok]
  simp at h' ⊢
  first | (rw [h']; done) | (rw [h']; rfl) | exact h'
theorem equalG_run {kt : TypeId} {fs : Array Field} {xs ys : List AV} {x y : Value} {r : Bool} (hu : P.underlying kt = some (.struct fs)) (hsi : P.stoodInHeld kt = false) (h : eqFs P xs ys fs.toList = some r) (ha : Rel F L (.agg xs) x) (hb : Rel F L (.agg ys) y) : (Op.equal kt x y).run P w = .ok r w := by
 cases ha with
 | agg _ us hul hur =>
  cases hb with
  | agg _ vs hvl hvr =>
   have := eqFs_run (P := P) (w := w) (d := 9996) hul hvl hur hvr fs.toList r h
   show (Op.equalIn (9999 + 1) kt _ _).run P w = _
   unfold Op.equalIn
   simp only [Sem.run_bind, run_underlying hu, Result.andThen_ok]
   simp only [run_program, Result.andThen_ok, hsi]
   simpa using this
theorem lookupG_run (hS : St P F L X w H) {t kt et : TypeId} {m k r : AV} {mv kv : Value} {c : Bool} (hu : P.underlying t = some (.map kt et)) (hm : Rel F L m mv) (hk : Rel F L k kv) (h : lookupG P H kt et m k c = some r) :
  ∃ u, (Instr.lookup t mv kv c).run P w = .ok u w ∧ Rel F L r u := by
 have tup2 : ∀ {F L} {a : AV} {v : Value} (b : Bool), Rel F L a v → Rel F L (.tup [a, .b b]) (.tuple #[v, .bool b]) := by
  intro F L a v b hr
  refine .tup [a, .b b] [v, .bool b] rfl fun k' c' hk' => ?_
  match k', hk' with
  | 0, hk' => injection hk' with hk'; subst hk'; exact hr
  | 1, hk' => injection hk' with hk'; subst hk'; exact .sc _ rfl
 unfold lookupG at h
 split at h
 ·rename_i xs fs j hd
  split at h
  ·rename_i hsi
   cases hm with
   | mp _ B hB =>
    split at h
    ·rename_i ys v hmo
     obtain ⟨b, hb, h⟩ := xoB.1 h
     obtain ⟨es, gs, clk, h1, hst, hpm, h2, h3, h4, h5⟩ := hS.mob j _ _ B (mapOf_some hmo) hB
     have hgo := MapKept.run_getObj_map (P := P) h1
     obtain ⟨e, rfl⟩ : ∃ e, gs = [e] := by
      match gs, h2 with
      | [e], _ => exact ⟨e, rfl⟩
     have hes : es = [e] := List.perm_singleton.1 hpm.symm
     subst hes
     obtain ⟨e', he', hre⟩ := h4 0 _ rfl
     injection he' with he'; subst he'
     obtain ⟨e', he', hrv⟩ := h5 0 _ rfl
     injection he' with he'; subst he'
     have hck := checkG_run (w := w) (e := false) hd hb hk
     have heq := equalG_run (w := w) hd hsi hb hk hre
     have hfn : Instr.findNow (.struct fs) kv [e] 0 = none := by
      cases hk with
      | agg _ us _ _ => simp [Instr.findNow, Instr.sameNow]
     have hf : (Instr.findKey kt kv [e]).run P w = .ok (if b = true then some (0, e.val) else none) w := by
      unfold Instr.findKey
      simp only [Sem.run_bind, run_underlying hd, Result.andThen_ok, hfn]
      unfold Instr.findAsking
      simp only [Sem.run_bind, heq, Result.andThen_ok]
      cases b with
      | true => simp
      | false => simp [Instr.findAsking]
     cases b with
     | true =>
      simp only at h
      injection h with h; subst h
      cases c with
      | true => exact ⟨.tuple #[e.val, .bool true], by simp [Instr.lookup, run_underlying hu, hgo, hck, hf, Result.andThen], tup2 true hrv⟩
      | false => exact ⟨e.val, by simp [Instr.lookup, run_underlying hu, hgo, hck, hf, Result.andThen], hrv⟩
     | false =>
      simp only at h
      obtain ⟨z, hz, h⟩ := xoM.1 h
      obtain ⟨zv, hz1, hz2⟩ := zeroV_run (P := P) (F := F) (L := L) (w := w) hz
      cases c with
      | true =>
       rw [if_pos rfl] at h; subst h
       exact ⟨.tuple #[zv, .bool false], by simp [Instr.lookup, run_underlying hu, hgo, hck, hf, hz1, Result.andThen], tup2 false hz2⟩
      | false =>
       rw [if_neg (by simp)] at h; subst h
       exact ⟨zv, by simp [Instr.lookup, run_underlying hu, hgo, hck, hf, hz1, Result.andThen], hz2⟩
    ·cases h
  ·cases h
 ·cases h
theorem lookupA_run (hS : St P F L X w H) {t : TypeId} {m k r : AV} {mv kv : Value} {c : Bool} (hm : Rel F L m mv) (hk : Rel F L k kv) (h : lookupA P H t m k c = some r) :
  ∃ u, (Instr.lookup t mv kv c).run P w = .ok u w ∧ Rel F L r u := by
 unfold lookupA at h
 obtain ⟨⟨kt, et⟩, hty, h⟩ := xoB.1 h
 have hu := mapTy_some hty
 simp only at h
 split at h
 case isFalse => exact lookupG_run hS hu hm hk h
 rename_i hkk
 obtain ⟨d, hd, hkey, hkv⟩ := isKey_of hkk hk
 have tup2 : ∀ {F L} {a : AV} {v : Value} (b : Bool), Rel F L a v → Rel F L (.tup [a, .b b]) (.tuple #[v, .bool b]) := by
  intro F L a v b hr
  refine .tup [a, .b b] [v, .bool b] rfl fun k' c' hk' => ?_
  match k', hk' with
  | 0, hk' => injection hk' with hk'; subst hk'; exact hr
  | 1, hk' => injection hk' with hk'; subst hk'; exact .sc _ rfl
 split at h
 ·-- no map
  obtain ⟨z, hz, h⟩ := xoM.1 h
  obtain ⟨hmv, _⟩ := hm.v_eq
  subst hmv
  obtain ⟨zv, hz1, hz2⟩ := zeroV_run (P := P) (F := F) (L := L) (w := w) hz
  have hf : (Instr.findKey kt kv ([] : List MapEntry)).run P w = .ok none w := MapKept.run_findKey hd rfl
  cases c with
  | true =>
   rw [if_pos rfl] at h; subst h
   exact ⟨.tuple #[zv, .bool false], by simp [Instr.lookup, run_underlying hu, MapKept.run_checkKey hd hkey, hf, hz1, Result.andThen], tup2 false hz2⟩
  | false =>
   rw [if_neg (by simp)] at h; subst h
   exact ⟨zv, by simp [Instr.lookup, run_underlying hu, MapKept.run_checkKey hd hkey, hf, hz1, Result.andThen], hz2⟩
 ·rename_i j hh
  cases hm with
  | mp _ B hB =>
   obtain ⟨⟨ks, vs⟩, hmo, h⟩ := xoB.1 h
   simp only at h
   obtain ⟨r0, hfk, h⟩ := xoB.1 h
   obtain ⟨es, fs, clk, h1, hst, hpm, h2, h3, h4, h5⟩ := hS.mob j ks vs B (mapOf_some hmo) hB
   have hgo := MapKept.run_getObj_map (P := P) h1
   rcases find_both hkey hkv hpm hst.2.2 h2 h4 hfk with ⟨rfl, hn, _⟩ | ⟨idx, idx', e, rfl, he, he2, hek, hn⟩
   ·obtain ⟨z, hz, h⟩ := xoM.1 h
    obtain ⟨zv, hz1, hz2⟩ := zeroV_run (P := P) (F := F) (L := L) (w := w) hz
    have hf : (Instr.findKey kt kv es).run P w = .ok none w := MapKept.run_findKey hd hn
    cases c with
    | true =>
     rw [if_pos rfl] at h; subst h
     exact ⟨.tuple #[zv, .bool false], by simp [Instr.lookup, run_underlying hu, hgo, MapKept.run_checkKey hd hkey, hf, hz1, Result.andThen], tup2 false hz2⟩
    | false =>
     rw [if_neg (by simp)] at h; subst h
     exact ⟨zv, by simp [Instr.lookup, run_underlying hu, hgo, MapKept.run_checkKey hd hkey, hf, hz1, Result.andThen], hz2⟩
   ·obtain ⟨v, hv, h⟩ := xoM.1 h
    obtain ⟨e', he', hre⟩ := h5 idx v hv
    rw [he] at he'; injection he' with he'; subst he'
    have hf : (Instr.findKey kt kv es).run P w = .ok (some (idx', e.val)) w := MapKept.run_findKey hd hn
    cases c with
    | true =>
     rw [if_pos rfl] at h; subst h
     exact ⟨.tuple #[e.val, .bool true], by simp [Instr.lookup, run_underlying hu, hgo, MapKept.run_checkKey hd hkey, hf, Result.andThen], tup2 true hre⟩
    | false =>
     rw [if_neg (by simp)] at h; subst h
     exact ⟨e.val, by simp [Instr.lookup, run_underlying hu, hgo, MapKept.run_checkKey hd hkey, hf, Result.andThen], hre⟩
 ·cases h
theorem St.mapNew (hS : St P F L X w H) : St P F (L ++ [w.heap.size]) X (w.alloc (.map #[] 0)) (H ++ [[.mv [] []]]) ∧ Goes (fun _ => False) F L w F (L ++ [w.heap.size]) (w.alloc (.map #[] 0)) := by
 have hsize : (w.alloc (.map #[] 0)).heap.size = w.heap.size + 1 := by simp
 have hold : ∀ B, B < w.heap.size → (w.alloc (.map #[] 0)).heap[B]? = w.heap[B]? := fun B hB => Go.heap_alloc_old w _ B hB
 have hnew : (w.alloc (.map #[] 0)).heap[w.heap.size]? = some (.map #[] 0) := Go.heap_alloc_new w _
 have hpre : ∀ (j B : Nat), L[j]? = some B → (L ++ [w.heap.size])[j]? = some B := by
  intro j B h
  rw [xgL (xgI.1 h).1]
  exact h
 have hgo : Goes (fun _ => False) F L w F (L ++ [w.heap.size]) (w.alloc (.map #[] 0)) :=
  ⟨by omega, fun B hB _ _ => ⟨hold B hB, fun i => rfl⟩, fun _ _ _ h => h, hpre, fun B h => by
   rcases List.mem_append.1 h with h | h
   ·exact .inl h
   ·simp at h; exact .inr (by omega), ⟨rfl, rfl, rfl⟩, fun _ => Nat.le_refl _⟩
 have old : ∀ (j : Nat) cs' B, (H ++ [[.mv [] []]])[j]? = some cs' → (L ++ [w.heap.size])[j]? = some B → (H[j]? = some cs' ∧ L[j]? = some B) ∨ (j = L.length ∧ cs' = [.mv [] []] ∧ B = w.heap.size) := by
  intro j cs' B hj hB
  rcases Nat.lt_or_ge j L.length with hjl | hjl
  ·rw [xgL hjl] at hB
   rw [xgL (hS.len ▸ hjl)] at hj
   exact .inl ⟨hj, hB⟩
  ·rw [xgR hjl] at hB
   rw [xgR (hS.len ▸ hjl)] at hj
   have h0 : j - L.length = 0 := by
    have := (xgI.1 hB).1
    simp at this
    omega
   rw [h0] at hB
   rw [← hS.len, h0] at hj
   simp at hB hj
   exact .inr ⟨by omega, hj.symm, hB.symm⟩
 refine ⟨⟨fun B i v h => ?_, by simp [hS.len], fun j cs' B hj hne hmv hB => ?_, fun B hB => ?_, fun j cs' B hj hne hB i hi => ?_, fun B hB => ?_, fun i j cs1 cs2 B hi hn1 hj hn2 hBi hBj => ?_, fun B hB => ?_, fun B hB => hS.room0 B (by omega), fun j ks vs B hj hB => ?_, fun j' cs' B' hj' hpl' hB' => ?_⟩, hgo⟩
 ·obtain ⟨h1, h2⟩ := hS.mem _ _ _ h
  exact ⟨by rw [cell?_same (hold B (hS.ltF h))]; exact h1, h2⟩
 ·rcases old j cs' B hj hB with ⟨h1, h2⟩ | ⟨h1, rfl, rfl⟩
  ·obtain ⟨arr', t', h3, h4, h5, h6⟩ := hS.obj j cs' B h1 hne hmv h2
   have hlt := hS.ltL (mem_of_get h2)
   exact ⟨arr', t', h3.same (hold B hlt), h4, h5, fun k c hk => (h6 k c hk).goes hgo⟩
  ·cases hmv
 ·rcases List.mem_append.1 hB with h | h
  ·have := hS.lt B h; omega
  ·simp at h; omega
 ·rcases old j cs' B hj hB with ⟨h1, h2⟩ | ⟨h1, rfl, rfl⟩
  ·exact hS.nof j cs' B h1 hne h2 i hi
  ·cases hf : F w.heap.size i with
   | none => rfl
   | some v => have := hS.ltF hf; omega
 ·rcases List.mem_append.1 hB with h | h
  ·exact hS.nox B h
  ·simp at h
   subst h
   intro hx
   have := hS.xlt _ hx
   omega
 ·rcases old i cs1 B hi hBi with ⟨h1, h2⟩ | ⟨h1, h1', h1''⟩ <;> rcases old j cs2 B hj hBj with ⟨h3, h4⟩ | ⟨h3, h3', h3''⟩
  ·exact hS.inj i j cs1 cs2 B h1 hn1 h3 hn2 h2 h4
  ·subst h3''; have := hS.ltL (mem_of_get h2); omega
  ·subst h1''; have := hS.ltL (mem_of_get h4); omega
  ·omega
 ·have := hS.xlt B hB
  omega
 ·rcases old j _ B hj hB with ⟨h1, h2⟩ | ⟨h1, h2, rfl⟩
  ·exact (hS.mob j ks vs B h1 h2).goes hgo (hold B (hS.ltL (mem_of_get h2)))
  ·injection h2 with h2 _; injection h2 with h2 h3; subst h2 h3
   exact ⟨[], [], 0, hnew, MapKept.stamped_empty 0, List.Perm.refl _, rfl, rfl, by simp, by simp⟩
 ·rcases old j' cs' B' hj' hB' with ⟨h1, h2⟩ | ⟨h1, rfl, rfl⟩
  ·exact hS.rm j' cs' B' h1 hpl' h2
  ·cases hpl'
theorem St.mapSet (hS : St P F L X w H) {j B : Nat} {ks vs ks' vs' : List AV} {es es' fs' : List MapEntry} {clk clk' : Nat} (hj : H[j]? = some [.mv ks vs]) (hB : L[j]? = some B) (hw : w.heap[B]? = some (.map es.toArray clk)) (hst' : MapKept.Stamped es'.toArray clk') (hpm' : fs'.Perm es')
  (hk : ks'.length = fs'.length) (hv : vs'.length = fs'.length) (h4 : ∀ (i : Nat) k, ks'[i]? = some k → ∃ e, fs'[i]? = some e ∧ Rel F L k e.key) (h5 : ∀ (i : Nat) v, vs'[i]? = some v → ∃ e, fs'[i]? = some e ∧ Rel F L v e.val) :
  St P F L X { w with heap := w.heap.setIfInBounds B (.map es'.toArray clk') } (H.set j [.mv ks' vs']) ∧ Goes (fun _ => False) F L w F L { w with heap := w.heap.setIfInBounds B (.map es'.toArray clk') } := by
 obtain ⟨hset, hother⟩ := MapKept.heap_set (o' := .map es'.toArray clk') hw
 have hBL := mem_of_get hB
 have hgo : Goes (fun _ => False) F L w F L { w with heap := w.heap.setIfInBounds B (.map es'.toArray clk') } :=
  ⟨by simp, fun b hb _ hbL => ⟨hother b (fun e => hbL (e ▸ hBL)), fun i => rfl⟩, fun _ _ _ h => h, fun _ _ h => h, fun _ h => .inl h, ⟨rfl, rfl, rfl⟩, fun _ => Nat.le_refl _⟩
 have old : ∀ (j' : Nat) cs', (H.set j [.mv ks' vs'])[j']? = some cs' → (j' ≠ j ∧ H[j']? = some cs') ∨ (j' = j ∧ cs' = [.mv ks' vs']) := by
  intro j' cs' h1
  by_cases hjj : j' = j
  ·subst hjj
   have hjl : j' < H.length := (xgI.1 hj).1
   rw [List.getElem?_set_self hjl] at h1
   injection h1 with h1
   exact .inr ⟨rfl, h1.symm⟩
  ·rw [List.getElem?_set_ne (fun e => hjj e.symm)] at h1
   exact .inl ⟨hjj, h1⟩
 refine ⟨⟨fun b i v h => ?_, by simp [hS.len], fun j' cs' B' hj' hne hmv hB' => ?_, fun b hb => by simpa using hS.lt b hb, fun j' cs' B' hj' hne hB' i hi => ?_, hS.nox, fun i1 j1 c1 c2 B1 hi1 hn1 hj1 hn2 hb1 hb2 => ?_, fun b hb => by simpa using hS.xlt b hb, fun b hb => hS.room0 b (by simpa using hb), fun j' ks2 vs2 B' hj' hB' => ?_, fun j' cs' B' hj' hpl' hB' => ?_⟩, hgo⟩
 ·obtain ⟨h1, h2⟩ := hS.mem _ _ _ h
  refine ⟨?_, h2⟩
  by_cases hb : b = B
  ·subst hb
   exfalso
   unfold World.cell? at h1
   simp only at h1
   rw [hw] at h1
   cases h1
  ·rw [cell?_same (hother b hb)]; exact h1
 ·rcases old j' cs' hj' with ⟨k1, k2⟩ | ⟨k1, rfl⟩
  ·obtain ⟨arr', t', h3, h4', h5', h6⟩ := hS.obj j' cs' B' k2 hne hmv hB'
   exact ⟨arr', t', h3.same (hother B' (fun e => k1 (hS.inj j' j cs' _ B k2 hne hj (by simp) (e ▸ hB') hB))), h4', h5', h6⟩
  ·cases hmv
 ·rcases old j' cs' hj' with ⟨k1, k2⟩ | ⟨rfl, rfl⟩
  ·exact hS.nof j' cs' B' k2 hne hB' i hi
  ·exact hS.nof j' _ B' hj (by simp) hB' i (Nat.zero_le _)
 ·rcases old i1 c1 hi1 with ⟨k1, k2⟩ | ⟨k1, k2⟩ <;> rcases old j1 c2 hj1 with ⟨m1, m2⟩ | ⟨m1, m2⟩
  ·exact hS.inj i1 j1 c1 c2 B1 k2 hn1 m2 hn2 hb1 hb2
  ·subst m1; exact hS.inj i1 j1 c1 _ B1 k2 hn1 hj (by simp) hb1 hb2
  ·subst k1; exact hS.inj i1 j1 _ c2 B1 hj (by simp) m2 hn2 hb1 hb2
  ·omega
 ·rcases old j' _ hj' with ⟨k1, k2⟩ | ⟨rfl, k2⟩
  ·refine (hS.mob j' ks2 vs2 B' k2 hB').goes hgo (hother B' (fun e => k1 (hS.inj j' j _ _ B k2 (by simp) hj (by simp) (e ▸ hB') hB)))
  ·injection k2 with k2 _; injection k2 with k2 k3; subst k2 k3
   rw [hB] at hB'; injection hB' with hB'; subst hB'
   exact ⟨es', fs', clk', hset, hst', hpm', hk, hv, h4, h5⟩
 ·rcases old j' cs' hj' with ⟨k1, k2⟩ | ⟨k1, rfl⟩
  ·exact hS.rm j' cs' B' k2 hpl' hB'
  ·cases hpl'
theorem sameBits_self {d : TypeDesc} {kv : Value} (hk : MapKept.IsKey d kv) : Instr.sameBits 10000 kv kv = true := by
 cases kv <;> first | (cases d <;> exact hk.elim) | (unfold Instr.sameBits; simp) | skip
 rename_i s
 unfold Instr.sameBits
 exact (bytes_beq' s s).2 rfl
theorem modify_set {es : List MapEntry} {idx : Nat} {e : MapEntry} {f : MapEntry → MapEntry} (he : es[idx]? = some e) : es.toArray.modify idx f = (es.set idx (f e)).toArray := by
 have hidx : idx < es.length := (xgI.1 he).1
 apply Array.ext'
 apply List.ext_getElem?
 intro i
 rw [Array.getElem?_toList, Array.getElem?_modify, List.getElem?_toArray]
 simp only [List.getElem?_set]
 by_cases hi : idx = i
 ·subst hi
  rw [if_pos rfl, if_pos rfl, if_pos hidx, he]; rfl
 ·rw [if_neg hi, if_neg hi]
theorem updateG_run (hS : St P F L X w H) {t kt et : TypeId} {m k v : AV} {mv kv vv : Value} {H' : Heap} (hu : P.underlying t = some (.map kt et)) (hm : Rel F L m mv) (hk : Rel F L k kv) (hv : Rel F L v vv) (h : updateG P H kt m k v = some H') :
  ∃ w', (Instr.mapUpdate t mv kv vv).run P w = .ok () w' ∧ St P F L X w' H' ∧ Goes (fun _ => False) F L w F L w' := by
 unfold updateG at h
 split at h
 ·rename_i xs fs j hd
  split at h
  ·rename_i hc
   obtain ⟨hsi, hself, hone⟩ := hc
   cases hm with
   | mp _ B hB =>
    split at h
    ·rename_i hmo
     injection h with h; subst h
     have hH := mapOf_some hmo
     obtain ⟨es, gs, clk, h1, hst, hpm, h2, h3, h4, h5⟩ := hS.mob j _ _ B hH hB
     have hgo := MapKept.run_getObj_map (P := P) h1
     obtain rfl : gs = [] := List.eq_nil_of_length_eq_zero (by simpa using h2.symm)
     have hes : es = [] := List.nil_perm.1 hpm
     subst hes
     have hck := checkG_run (w := w) (e := false) hd hself hk
     have hf : (Instr.findKey kt kv []).run P w = .ok none w := MapKept.run_findKey hd rfl
     have hset := MapKept.run_setObj_map (P := P) (.map [({ key := kv, val := vv, born := clk } : MapEntry)].toArray (clk + 1)) h1
     obtain ⟨hS', hgo'⟩ := hS.mapSet (ks' := [.agg xs]) (vs' := [v]) (es' := [({ key := kv, val := vv, born := clk } : MapEntry)]) (fs' := [({ key := kv, val := vv, born := clk } : MapEntry)]) (clk' := clk + 1) hH hB h1 (by have := MapKept.stamped_push hst (key := kv) (val := vv) (by simp); simpa using this) (List.Perm.refl _) rfl rfl
      (fun i k' hk' => by
       cases i with
       | zero => injection hk' with hk'; subst hk'; exact ⟨_, rfl, hk⟩
       | succ i => simp at hk')
      (fun i v' hv' => by
       cases i with
       | zero => injection hv' with hv'; subst hv'; exact ⟨_, rfl, hv⟩
       | succ i => simp at hv')
     refine ⟨_, ?_, hS', hgo'⟩
     simp [Instr.mapUpdate, run_underlying hu, hgo, hck, hf, Result.andThen, hset]
    ·cases h
  ·cases h
 ·cases h
theorem updateA_run (hS : St P F L X w H) {t : TypeId} {m k v : AV} {mv kv vv : Value} {H' : Heap} (hm : Rel F L m mv) (hk : Rel F L k kv) (hv : Rel F L v vv) (h : updateA P H t m k v = some H') :
  ∃ w', (Instr.mapUpdate t mv kv vv).run P w = .ok () w' ∧ St P F L X w' H' ∧ Goes (fun _ => False) F L w F L w' := by
 unfold updateA at h
 obtain ⟨⟨kt, et⟩, hty, h⟩ := xoB.1 h
 have hu := mapTy_some hty
 simp only at h
 split at h
 case isFalse => exact updateG_run hS hu hm hk hv h
 rename_i hkk
 obtain ⟨d, hd, hkey, hkv⟩ := isKey_of hkk.1 hk
 split at h
 ·rename_i j hh
  cases hm with
  | mp _ B hB =>
   obtain ⟨⟨ks, vs⟩, hmo, h⟩ := xoB.1 h
   simp only at h
   obtain ⟨r0, hfk, h⟩ := xoM.1 h
   have hH := mapOf_some hmo
   obtain ⟨es, fs, clk, h1, hst, hpm, h2, h3, h4, h5⟩ := hS.mob j ks vs B hH hB
   have hgo := MapKept.run_getObj_map (P := P) h1
   rcases find_both hkey hkv hpm hst.2.2 h2 h4 hfk with ⟨rfl, hn, hnk⟩ | ⟨idx, idx', e, rfl, he, hee, hek, hn⟩
   ·simp only at h
    subst h
    have hf : (Instr.findKey kt kv es).run P w = .ok none w := MapKept.run_findKey hd hn
    have hset := MapKept.run_setObj_map (P := P) (.map (es ++ [({ key := kv, val := vv, born := clk } : MapEntry)]).toArray (clk + 1)) h1
    obtain ⟨hS', hgo'⟩ := hS.mapSet (ks' := ks ++ [k]) (vs' := vs ++ [v]) (es' := es ++ [({ key := kv, val := vv, born := clk } : MapEntry)]) (fs' := fs ++ [({ key := kv, val := vv, born := clk } : MapEntry)]) (clk' := clk + 1) hH hB h1 (by have := MapKept.stamped_push hst (key := kv) (val := vv) (by simpa using hnk); simpa using this) (hpm.append_right _) (by simp [h2]) (by simp [h3])
     (fun i k' hk' => by
      rcases Nat.lt_or_ge i ks.length with hl | hl
      ·rw [xgL hl] at hk'
       obtain ⟨e, he, hr⟩ := h4 i k' hk'
       exact ⟨e, by rw [xgL (by omega)]; exact he, hr⟩
      ·rw [xgR hl] at hk'
       have h0 : i - ks.length = 0 := by have := (xgI.1 hk').1; simp at this; omega
       rw [h0] at hk'; injection hk' with hk'; subst hk'
       exact ⟨_, by rw [xgR (by omega), show i - fs.length = 0 by omega]; rfl, hk⟩)
     (fun i v' hv' => by
      rcases Nat.lt_or_ge i vs.length with hl | hl
      ·rw [xgL hl] at hv'
       obtain ⟨e, he, hr⟩ := h5 i v' hv'
       exact ⟨e, by rw [xgL (by omega)]; exact he, hr⟩
      ·rw [xgR hl] at hv'
       have h0 : i - vs.length = 0 := by have := (xgI.1 hv').1; simp at this; omega
       rw [h0] at hv'; injection hv' with hv'; subst hv'
       exact ⟨_, by rw [xgR (by omega), show i - fs.length = 0 by omega]; rfl, hv⟩)
    refine ⟨_, ?_, hS', hgo'⟩
    have hpush : es.toArray.push { key := kv, val := vv, born := clk } = (es ++ [({ key := kv, val := vv, born := clk } : MapEntry)]).toArray := by simp
    simp only [Instr.mapUpdate, Sem.run_bind, run_underlying hu, Result.andThen_ok, hgo, MapKept.run_checkKey hd hkey, hf, hpush, hset]
   ·simp only at h
    subst h
    have hf : (Instr.findKey kt kv es).run P w = .ok (some (idx', e.val)) w := MapKept.run_findKey hd hn
    have hstay : (Instr.keyThatStays e.key kv).run P w = .ok kv w := by
     unfold Instr.keyThatStays
     rw [hek, if_pos]
     ·rfl
     ·exact sameBits_self hkey
    have hidx : idx < fs.length := (xgI.1 he).1
    have hmod : (es.toArray.modify idx' fun e => { e with key := kv, val := vv }) = (es.set idx' { e with key := kv, val := vv }).toArray := modify_set hee
    have hst2 : MapKept.Stamped (es.set idx' { e with key := kv, val := vv }).toArray clk := by
     rw [← hmod]
     refine MapKept.stamped_modify hst idx' _ (fun _ _ => rfl) (fun e' _ he' => ?_)
     rw [List.getElem?_toArray, hee] at he'
     injection he' with he'; subst he'
     exact hek.symm
    have hset := MapKept.run_setObj_map (P := P) (.map (es.set idx' { e with key := kv, val := vv }).toArray clk) h1
    obtain ⟨e2, he2⟩ : ∃ e2 : MapEntry, e2 = { e with key := kv, val := vv } := ⟨_, rfl⟩
    have hek2 : e2.key = kv := by rw [he2]
    have hev2 : e2.val = vv := by rw [he2]
    rw [← he2] at hmod hset hst2
    obtain ⟨hS', hgo'⟩ := hS.mapSet (ks' := ks) (vs' := vs.set idx v) (es' := es.set idx' e2) (fs' := fs.set idx e2) (clk' := clk) hH hB h1 hst2 (perm_set hpm he hee) (by rw [List.length_set, h2]) (by rw [List.length_set, List.length_set, h3])
     (fun i k' hk' => by
      obtain ⟨e1, he1, hr⟩ := h4 i k' hk'
      by_cases hi : idx = i
      ·subst hi
       rw [he] at he1; injection he1 with he1; subst he1
       exact ⟨e2, by rw [List.getElem?_set_self hidx], by rw [hek] at hr; rw [hek2]; exact hr⟩
      ·exact ⟨e1, by rw [List.getElem?_set_ne hi]; exact he1, hr⟩)
     (fun i v' hv' => by
      by_cases hi : idx = i
      ·subst hi
       rw [List.getElem?_set_self (by omega)] at hv'
       injection hv' with hv'; subst hv'
       exact ⟨e2, by rw [List.getElem?_set_self hidx], by rw [hev2]; exact hv⟩
      ·rw [List.getElem?_set_ne hi] at hv'
       obtain ⟨e1, he1, hr⟩ := h5 i v' hv'
       exact ⟨e1, by rw [List.getElem?_set_ne hi]; exact he1, hr⟩)
    refine ⟨_, ?_, hS', hgo'⟩
    simp only [Instr.mapUpdate, Sem.run_bind, run_underlying hu, Result.andThen_ok, hgo, MapKept.run_checkKey hd hkey, hf, List.getElem?_toArray, hee, Option.map_some, Option.getD_some, hstay, hmod, hset]
 ·cases h
theorem deleteA_run (hS : St P F L X w H) {t u ty : TypeId} {m k : AV} {mv kv : Value} {H' : Heap} (hm : Rel F L m mv) (hk : Rel F L k kv) (h : deleteA P H t m k = some H') :
  ∃ w', (Builtin.delete_ #[t, u] ty #[mv, kv]).run P w = .ok (.tuple #[]) w' ∧ St P F L X w' H' ∧ Goes (fun _ => False) F L w F L w' := by
 unfold deleteA at h
 obtain ⟨⟨kt, et⟩, hty, h⟩ := xoB.1 h
 have hu := mapTy_some hty
 simp only at h
 split at h
 case isFalse => cases h
 rename_i hkk
 obtain ⟨d, hd, hkey, hkv⟩ := isKey_of hkk hk
 split at h
 ·injection h with h; subst h
  obtain ⟨hmv, _⟩ := hm.v_eq
  subst hmv
  exact ⟨w, by simp [Builtin.delete_, run_underlying hu, MapKept.run_checkKey hd hkey, Result.andThen], hS, Goes.refl _ F L w⟩
 ·rename_i j hh
  cases hm with
  | mp _ B hB =>
   obtain ⟨⟨ks, vs⟩, hmo, h⟩ := xoB.1 h
   simp only at h
   obtain ⟨r0, hfk, h⟩ := xoM.1 h
   have hH := mapOf_some hmo
   obtain ⟨es, fs, clk, h1, hst, hpm, h2, h3, h4, h5⟩ := hS.mob j ks vs B hH hB
   have hgo := MapKept.run_getObj_map (P := P) h1
   rcases find_both hkey hkv hpm hst.2.2 h2 h4 hfk with ⟨rfl, hn, hnk⟩ | ⟨idx, idx', e, rfl, he, hee, hek, hn⟩
   ·simp only at h
    subst h
    have hf : (Instr.findKey kt kv es).run P w = .ok none w := MapKept.run_findKey hd hn
    have hset := MapKept.run_setObj_map (P := P) (.map es.toArray clk) h1
    obtain ⟨hS', hgo'⟩ := hS.mapSet (ks' := ks) (vs' := vs) (es' := es) (fs' := fs) (clk' := clk) hH hB h1 hst hpm h2 h3 h4 h5
    rw [List.set_getElem?_self' hH] at hS'
    refine ⟨_, ?_, hS', hgo'⟩
    simp [Builtin.delete_, run_underlying hu, hgo, MapKept.run_checkKey hd hkey, hf, Result.andThen, hset]
   ·simp only at h
    subst h
    have hf : (Instr.findKey kt kv es).run P w = .ok (some (idx', e.val)) w := MapKept.run_findKey hd hn
    have hidx : idx < fs.length := (xgI.1 he).1
    have her : es.toArray.eraseIdxIfInBounds idx' = (es.eraseIdx idx').toArray := by simp
    have hset := MapKept.run_setObj_map (P := P) (.map (es.eraseIdx idx').toArray clk) h1
    have hshift : ∀ {α : Type} {l : List α} (i : Nat) (x : α), (l.eraseIdx idx)[i]? = some x → l[if i < idx then i else i + 1]? = some x := by
     intro α l i x hx
     rw [List.getElem?_eraseIdx] at hx
     split at hx
     ·rename_i h; rw [if_pos h]; exact hx
     ·rename_i h; rw [if_neg h]; exact hx
    have hback : ∀ (i : Nat) (x : MapEntry), fs[if i < idx then i else i + 1]? = some x → (fs.eraseIdx idx)[i]? = some x := by
     intro i x hx
     rw [List.getElem?_eraseIdx]
     split
     ·rename_i h; rw [if_pos h] at hx; exact hx
     ·rename_i h; rw [if_neg h] at hx; exact hx
    obtain ⟨hS', hgo'⟩ := hS.mapSet (ks' := ks.eraseIdx idx) (vs' := vs.eraseIdx idx) (es' := es.eraseIdx idx') (fs' := fs.eraseIdx idx) (clk' := clk) hH hB h1 (by rw [← her]; exact MapKept.stamped_erase hst idx') (perm_erase hpm he hee)
     (by rw [List.length_eraseIdx_of_lt (by omega), List.length_eraseIdx_of_lt hidx]; omega) (by rw [List.length_eraseIdx_of_lt (by omega), List.length_eraseIdx_of_lt hidx]; omega)
     (fun i k' hk' => by
      obtain ⟨e1, he1, hr⟩ := h4 _ k' (hshift i k' hk')
      exact ⟨e1, hback i e1 he1, hr⟩)
     (fun i v' hv' => by
      obtain ⟨e1, he1, hr⟩ := h5 _ v' (hshift i v' hv')
      exact ⟨e1, hback i e1 he1, hr⟩)
    refine ⟨_, ?_, hS', hgo'⟩
    simp [Builtin.delete_, run_underlying hu, hgo, MapKept.run_checkKey hd hkey, hf, Result.andThen, hset]
 ·cases h
end
end Go.Lv
set_option linter.unusedVariables false
set_option linter.unusedSimpArgs false
namespace Go.Lv
section
variable {P : Program} {F : Facts} {L : List Nat} {w : World} {X : Nat → Prop} {H : Heap}
theorem partsRel {ρ : Operand → Value} {f : Operand → AV} (hT : ∀ x, Rel F L (f x) (ρ x)) (ps : Array (Nat × Operand)) : PartsRel F L (ps.toList.map fun p => (p.1, f p.2)) (ps.toList.map fun p => (p.1, ρ p.2)) := by
 refine ⟨by simp, fun k p q hp hq => ?_⟩
 rw [List.getElem?_map] at hp hq
 obtain ⟨x, hx, rfl⟩ := xoM.1 hp
 rw [hx] at hq
 injection hq with hq
 subst hq
 exact ⟨rfl, hT _⟩
theorem argsRel {ρ : Operand → Value} {f : Operand → AV} (hT : ∀ x, Rel F L (f x) (ρ x)) (as_ : Array Operand) : ∀ (k : Nat) (c : AV), (as_.toList.map f)[k]? = some c → Rel F L c ((as_.toList.map ρ).getD k undef) := by
 intro k c hk
 rw [List.getElem?_map] at hk
 obtain ⟨x, hx, rfl⟩ := xoM.1 hk
 rw [xgD, List.getElem?_map, hx]
 exact hT x
def isAppend : Op → Bool
 | .call { callee := .builtin .append, .. } => true
 | _ => false
theorem minA_run {a b r : AV} {x y : Value} (ha : Rel F L a x) (hb : Rel F L b y) (h : minA a b = some r) : ∃ u, (Builtin.min2 x y).run P w = .ok u w ∧ Rel F L r u := by
 unfold minA at h
 split at h
 ·obtain ⟨rfl, _⟩ := ha.v_eq
  obtain ⟨rfl, _⟩ := hb.v_eq
  injection h with h; subst h
  exact ⟨_, by simp [Builtin.min2], .sc _ rfl⟩
 ·cases h
theorem maxA_run {a b r : AV} {x y : Value} (ha : Rel F L a x) (hb : Rel F L b y) (h : maxA a b = some r) : ∃ u, (Builtin.max2 x y).run P w = .ok u w ∧ Rel F L r u := by
 unfold maxA at h
 split at h
 ·obtain ⟨rfl, _⟩ := ha.v_eq
  obtain ⟨rfl, _⟩ := hb.v_eq
  injection h with h; subst h
  exact ⟨_, by simp [Builtin.max2], .sc _ rfl⟩
 ·cases h
theorem list_two {α : Type} {a b : α} {f : Operand → α} {as_ : Array Operand} (h : as_.toList.map f = [a, b]) : ∃ x y, as_ = #[x, y] ∧ f x = a ∧ f y = b := by
 obtain ⟨as_⟩ := as_
 match as_, h with
 | [x, y], h => simp at h; exact ⟨x, y, rfl, h.1, h.2⟩
theorem list_one {α : Type} {a : α} {f : Operand → α} {as_ : Array Operand} (h : as_.toList.map f = [a]) : ∃ x, as_ = #[x] ∧ f x = a := by
 obtain ⟨as_⟩ := as_
 match as_, h with
 | [x], h => simp at h; exact ⟨x, rfl, h⟩
theorem arr_one {as_ : Array TypeId} {a : TypeId} (h : as_.toList = [a]) : as_ = #[a] := by
 obtain ⟨as_⟩ := as_; simp at h; subst h; rfl
theorem arr_two {as_ : Array TypeId} {a b : TypeId} (h : as_.toList = [a, b]) : as_ = #[a, b] := by
 obtain ⟨as_⟩ := as_; simp at h; subst h; rfl
theorem argE_rel {C : Cfg} {g : FuncId} {e : Env} {ρ : Operand → Value} (hT : ∀ x, Rel F L (ev e x) (ρ x)) (hc : ∀ v, ρ (.const v) = v) (x : Operand) : Rel F L (argE C g e x) (ρ x) := by
 unfold argE
 cases C.raw g
 ·exact (hT x).plainA
 ·exact evX_rel hT hc x
theorem zeroA_plain {t : TypeId} {z : List AV} (h : zeroA P t = some z) : isMv z = false := by
 unfold zeroA at h
 obtain ⟨v, hv, h⟩ := xoB.1 h
 split at h
 ·rename_i hone
  injection h with h; subst h
  exact (plainRow_spec (plainRow_one hone)).1
 ·cases h
theorem builtinA_run {ρ : Operand → Value} {f : Operand → AV} (hT : ∀ x, Rel F L (f x) (ρ x)) {b : Builtin} {ts : Array TypeId} {as_ : Array Operand} {r : AV} (ty : TypeId) (hb : b ≠ .append)
  (h : builtinA P b ts.toList (as_.toList.map f) = some r) (cs : Array Bool) : ∃ u, (builtin b ts ty cs (as_.map ρ)).run P w = .ok (.value u) w ∧ Rel F L r u := by
 generalize hts : ts.toList = tl at h
 generalize has : as_.toList.map f = al at h
 unfold builtinA at h
 split at h
 ·rename_i t s
  have := arr_one hts; subst this
  obtain ⟨x, rfl, hx⟩ := list_one has
  have hr := hT x
  rw [hx] at hr
  obtain ⟨hv, _⟩ := hr.v_eq
  split at h
  ·rename_i hu
   injection h with h; subst h
   exact ⟨_, by simp [builtin, Builtin.len_, ← hv, run_underlying hu, goInt], .sc _ rfl⟩
  ·rename_i hu
   split at h
   ·rename_i hn
    injection h with h; subst h
    have := isNilV_spec hn
    subst this
    exact ⟨_, by simp [builtin, Builtin.len_, ← hv, run_underlying hu, goInt], .sc _ rfl⟩
   ·cases h
  ·cases h
 ·rename_i t xs
  have := arr_one hts; subst this
  obtain ⟨x, rfl, hx⟩ := list_one has
  have hr := hT x
  rw [hx] at hr
  split at h
  ·rename_i e' hu
   injection h with h; subst h
   have hl : ∃ a c, ρ x = .slice a xs.length c := by
    generalize ρ x = v at hr
    cases hr with
    | sl0 a cap h => exact ⟨a, cap, rfl⟩
    | sl xs B o len cap sz vals hl h0 hc hs hn hf hr => exact ⟨_, cap, by rw [hl]⟩
   obtain ⟨a, c, hl⟩ := hl
   exact ⟨_, by simp [builtin, Builtin.len_, hl, run_underlying hu, goInt], .sc _ rfl⟩
  ·cases h
 ·rename_i t j off len n g
  have := arr_one hts; subst this
  obtain ⟨x, rfl, hx⟩ := list_one has
  have hr := hT x
  rw [hx] at hr
  split at h
  ·rename_i e' hu
   injection h with h; subst h
   have hl : ∃ a c, ρ x = .slice a len c := by
    generalize ρ x = v at hr
    cases hr with
    | mr _ _ _ _ cap B _ hB hc hn hr hx => exact ⟨_, cap, rfl⟩
   obtain ⟨a, c, hl⟩ := hl
   exact ⟨_, by simp [builtin, Builtin.len_, hl, run_underlying hu, goInt], .sc _ rfl⟩
  ·cases h
 ·obtain ⟨x, y, rfl, hx, hy⟩ := list_two has
  obtain ⟨u, h1, h2⟩ := minA_run (P := P) (w := w) (hx ▸ hT x) (hy ▸ hT y) h
  exact ⟨u, by simp [builtin, Builtin.min_, h1], h2⟩
 ·obtain ⟨x, y, rfl, hx, hy⟩ := list_two has
  obtain ⟨u, h1, h2⟩ := maxA_run (P := P) (w := w) (hx ▸ hT x) (hy ▸ hT y) h
  exact ⟨u, by simp [builtin, Builtin.max_, h1], h2⟩
 ·exact absurd rfl hb
 ·exact absurd rfl hb
 ·cases h
structure Done (P : Program) (X : Nat → Prop) (F : Facts) (L : List Nat) (w : World) (o : Oper) (ρ : Operand → Value) (r : AV) (H' : Heap) (F' : Facts) (L' : List Nat) (w' : World) (u : Value) : Prop where
 run : (execOp ρ o).run P w = .ok (.value u) w' ∨ ((execOp ρ o).run P w = .ok .skip w' ∧ u = undef)
 rel : Rel F' L' r u
 st : St P F' L' X w' H'
 goes : Goes (fun _ => False) F L w F' L' w'
theorem opA_run (hS : St P F L X w H) {o : Oper} {ρ : Operand → Value} {e : Env} (hT : ∀ x, Rel F L (ev e x) (ρ x)) (hcn : ∀ v, ρ (.const v) = v) {r : AV} {H' : Heap} (h : opA P e H o.op = some (r, H')) (happ : isAppend o.op = false) :
  ∃ F' L' w' u, Done P X F L w o ρ r H' F' L' w' u ∧ ∀ t len ps, o.op = .buildSlice t len ps → ∃ el n, elemOfT P t = some el ∧ sizeT P el = some n ∧ Own F' L' X w' n u ∧ u.ownBlock = some w.heap.size ∧ w.heap.size < w'.heap.size := by
 have same : ∀ {u : Value}, (execOp ρ o).run P w = .ok (.value u) w → Rel F L r u → H' = H → (∀ t len ps, o.op ≠ .buildSlice t len ps) →
   ∃ F' L' w' u, Done P X F L w o ρ r H' F' L' w' u ∧ ∀ t len ps, o.op = .buildSlice t len ps → ∃ el n, elemOfT P t = some el ∧ sizeT P el = some n ∧ Own F' L' X w' n u ∧ u.ownBlock = some w.heap.size ∧ w.heap.size < w'.heap.size := by
  intro u h1 h2 h3 h4
  subst h3
  exact ⟨F, L, w, u, ⟨.inl h1, h2, hS, Goes.refl _ F L w⟩, fun t len ps hh => absurd hh (h4 t len ps)⟩
 have some1 : ∀ {x : Option AV}, (x.map fun a => (a, H)) = some (r, H') → x = some r ∧ H' = H := by
  intro x hx
  obtain ⟨a, ha, he⟩ := xoM.1 hx
  injection he with h1 h2
  exact ⟨h1 ▸ ha, h2.symm⟩
 obtain ⟨dst, op, type, pos, after, guard⟩ := o
 simp only at h happ same ⊢
 unfold opA at h
 split at h
 ·injection h with h; injection h with h1 h2
  exact same (by simp [execOp]) (h1 ▸ hT _) h2.symm (by simp)
 ·injection h with h; injection h with h1 h2
  exact same (by simp [execOp]) (h1 ▸ hT _) h2.symm (by simp)
 ·rename_i c a b
  split at h
  ·rename_i t hc
   injection h with h; injection h with h1 h2
   have hcr := hT c
   rw [hc] at hcr
   obtain ⟨hv, _⟩ := hcr.v_eq
   refine same (u := if t then ρ a else ρ b) (by cases t <;> simp [execOp, ← hv, asBool]) ?_ h2.symm (by simp)
   subst h1
   cases t
   ·exact hT b
   ·exact hT a
  ·cases h
 ·rename_i t
  obtain ⟨z, hz, he⟩ := xoM.1 h
  injection he with h1 h2; subst h1 h2
  obtain ⟨v, arr, z1, z2, z3, z4, _⟩ := zeroA_run (P := P) (F := F) (L := L) (w := w) hz
  obtain ⟨F', hS', hgo⟩ := hS.var (Grew.alloc w arr t) z (zeroA_plain hz) z3 z4
  refine ⟨F', _, _, _, ⟨.inl ?_, .ptr H.length 0 w.heap.size ?_, hS', hgo⟩, by simp⟩
  ·simp [execOp, Instr.alloc, z1, newVar, newRow, z2]
  ·rw [← hS.len, xgR (Nat.le_refl _)]
   simp
 ·rename_i t x
  split at h
  ·rename_i hone
   injection h with h; injection h with h1 h2; subst h1 h2
   have hx := evX_rel hT hcn x
   obtain ⟨h1, h2⟩ := hx.cellsOne hone
   obtain ⟨F', hS', hgo⟩ := hS.var (Grew.alloc w (ρ x).cells.toList t) (evX e x).cells (plainRow_spec (plainRow_one hone)).1 (by simpa using h1) h2
   refine ⟨F', _, _, _, ⟨.inl ?_, .ptr H.length 0 w.heap.size ?_, hS', hgo⟩, by simp⟩
   ·simp [execOp, Instr.box, newVar, newRow]
   ·rw [← hS.len, xgR (Nat.le_refl _)]
    simp
  ·cases h
 ·rename_i t ps
  obtain ⟨hx, rfl⟩ := some1 h
  obtain ⟨u, h1, h2⟩ := buildA_run (P := P) (w := w) (partsRel (evX_rel hT hcn) ps) hx
  have hps : (ps.map fun p => (p.1, ρ p.2)) = (ps.toList.map fun p => (p.1, ρ p.2)).toArray := by apply Array.ext'; simp
  exact same (u := u) (by simp [execOp]; rw [hps]; simp [h1]) h2 rfl (by simp)
 ·rename_i t len ps
  obtain ⟨hx, rfl⟩ := some1 h
  obtain ⟨u, w', F', n, el, h1, h2, h3, h4, h5, h6, h7, h8, h9⟩ := buildSliceA_run hS (partsRel hT ps) hx
  have hps : (ps.map fun p => (p.1, ρ p.2)) = (ps.toList.map fun p => (p.1, ρ p.2)).toArray := by apply Array.ext'; simp
  refine ⟨F', L, w', u, ⟨.inl ?_, h4, h5, h6⟩, fun t' len' ps' he => ?_⟩
  ·simp [execOp]; rw [hps]; simp [h3]
  ·injection he with e1 e2 e3
   subst e1
   exact ⟨el, n, h1, h2, h7, h8, h9⟩
 ·rename_i t a
  obtain ⟨hx, rfl⟩ := some1 h
  obtain ⟨u, h1, h2⟩ := loadA_run hS (hT a) hx
  exact same (u := u) (by simp [execOp, h1]) h2 rfl (by simp)
 ·rename_i t a x
  obtain ⟨H1, hH, he⟩ := xoM.1 h
  injection he with h1 h2; subst h1 h2
  obtain ⟨w', h1, h2, h3⟩ := storeA_run hS (hT a) (evX_rel hT hcn x) hH
  exact ⟨F, L, w', undef, ⟨.inr ⟨by simp [execOp, h1], rfl⟩, .un _, h2, h3⟩, by simp⟩
 ·rename_i x
  split at h
  ·rename_i j off hx
   injection h with h; injection h with h1 h2; subst h1
   have hr := hT x
   rw [hx] at hr
   cases hv : ρ x with
   | pointer p =>
    rw [hv] at hr
    cases hr with
    | ptr j off B hB => exact same (u := .pointer (some ⟨B, off, none⟩)) (by simp [execOp, hv]) (.ptr _ _ _ hB) h2.symm (by simp)
   | _ => rw [hv] at hr; cases hr
  ·cases h
 ·rename_i op xt x y yt
  obtain ⟨hx, rfl⟩ := some1 h
  obtain ⟨u, h1, h2⟩ := bin_run (P := P) (w := w) (xo := x) (yo := y) hx (hT x) (hT y)
  exact same (u := u) (by simp only [execOp]; rw [Sem.run_bind, h1]; rfl) h2 rfl (by simp)
 ·rename_i op xt x
  obtain ⟨hx, rfl⟩ := some1 h
  obtain ⟨u, h1, h2⟩ := un1_run (P := P) (w := w) hx (hT x)
  exact same (u := u) (by simp [execOp, h1]) h2 rfl (by simp)
 ·rename_i s d x
  obtain ⟨hx, rfl⟩ := some1 h
  by_cases hc : ∀ y, plainA (ev e x) ≠ .v (.string y) ∨ ∀ el, P.underlying d ≠ some (.slice el)
  ·obtain ⟨u, h1, h2⟩ := conv_same_run hS (hT x).plainA hx hc
   exact same (u := u) (by simp [execOp, h1]) h2 rfl (by simp)
  ·obtain ⟨y, hy⟩ := Classical.not_forall.1 hc
   have hy1 : plainA (ev e x) = .v (.string y) := Classical.byContradiction fun h => hy (.inl h)
   have hy2 : ∃ el, P.underlying d = some (.slice el) := by
    refine Classical.byContradiction fun h => hy (.inr fun el he => h ⟨el, he⟩)
   obtain ⟨el, hd⟩ := hy2
   have hr := (hT x).plainA
   rw [hy1] at hr hx
   obtain ⟨hv, _⟩ := hr.v_eq
   have hconv : ∃ us, P.underlying s = some us ∧ P.underlying el = some (.int .u8) ∧ r = strA y := by
    unfold conv at hx
    split at hx
    ·rename_i h1 h2 h3; rw [hd] at h2; cases h2
    ·rename_i h1 h2 h3; rw [hd] at h2; cases h2
    ·rename_i h1 h2; cases h2
    ·rename_i e1 x1 h1 h2 h3
     rw [hd] at h2
     injection h2 with h2; injection h2 with h2; subst h2
     split at hx
     ·rename_i h4
      injection hx with hx
      injection h3 with h3; injection h3 with h3; subst h3
      exact ⟨_, h1, h4, hx.symm⟩
     ·cases hx
    ·cases hx
   obtain ⟨us, hs1, hs2, rfl⟩ := hconv
   have hrun := Lib.run_convert_string_bytes (P := P) w s d el y hs1 hd hs2
   rw [hv] at hrun
   have hg : Grew w (Lib.bytesWorld w el y) (Lib.bytesCells w el y).toList el ((Lib.bytesCells w el y).size, (Lib.bytesCells w el y).size + 1) :=
    ⟨Lib.bytesWorld_size w el y, fun B hB => Lib.bytesWorld_at_old w el y B hB, by simpa using Lib.bytesWorld_at_new w el y, by
     have : Lib.bytesWorld w el y = (w.drew.alloc (.cells (Lib.bytesCells w el y) el)).freeze ⟨w.heap.size, (Lib.bytesCells w el y).size, none⟩ 1 := rfl
     rw [this]
     simp [World.freeze, World.alloc, World.drew, -World.alloc_eq, -World.drew_eq]⟩
   obtain ⟨vs, hvs⟩ : ∃ vs : List Value, vs = y.data.toList.map fun b => Value.int .u8 b.toNat := ⟨_, rfl⟩
   have hpre : (Lib.bytesCells w el y).toList = vs ++ (Array.replicate (grownCap w y.size 0 el - y.size) (Value.int .u8 0)).toList := by
    rw [hvs]
    simp [Lib.bytesCells]
   obtain ⟨hS', hgo⟩ := hS.row hg vs (fun i v hv => ⟨by rw [hpre, xgL (xgI.1 hv).1]; exact hv, by
    have := List.mem_of_getElem? hv
    rw [hvs] at this
    obtain ⟨b, _, rfl⟩ := List.mem_map.1 this
    rfl⟩)
   have hrow : Row (addF F w.heap.size vs) L 1 (y.data.toList.map byteA) vs := by
    refine ⟨by simp [hvs], fun i a ha => ?_, fun i a k c ha hk => ?_⟩
    ·rw [List.getElem?_map] at ha
     obtain ⟨b, _, rfl⟩ := xoM.1 ha
     rfl
    ·rw [List.getElem?_map] at ha
     obtain ⟨b, hb, rfl⟩ := xoM.1 ha
     have hk0 : k = 0 := by
      have := (xgI.1 hk).1
      simp [byteA, AV.cells] at this
      exact this
     subst hk0
     simp [byteA, AV.cells] at hk
     subst hk
     rw [Nat.mul_one, Nat.add_zero, xgD, hvs, List.getElem?_map, hb]
     exact .sc _ rfl
   have hsz : (y.data.toList.map byteA).length = y.size := by simp
   have hrel := Rel.mk (F := addF F w.heap.size vs) (L := L) (B := w.heap.size) (o := 0) (cap := grownCap w y.size 0 el) hrow (by omega) (by rw [hsz]; exact grownCap_ge w _ _ _) (fun j u hu => by rw [addF_get, if_pos rfl, Nat.zero_add]; exact hu)
   rw [hsz] at hrel
   exact ⟨_, L, _, _, ⟨.inl (by simp [execOp, hrun]), hrel, hS', hgo⟩, by simp⟩
 ·rename_i f first caps
  split at h
  ·rename_i hf
   injection h with h; injection h with h1 h2; subst h1
   refine same (u := .func (.func f) #[] (caps.toList.map ρ).toArray) ?_ (.fn f _ _ (by simp) (argsRel hT caps)) h2.symm (by simp)
   have : first = #[] := Array.eq_empty_of_size_eq_zero hf
   subst this
   simp only [execOp, Instr.makeFunc, Sem.run_bind, Sem.run_pure, Result.andThen_ok]
   congr 2
   simp
   apply Array.ext'
   simp
  ·cases h
 ·rename_i t x lo hi mx
  obtain ⟨hx, rfl⟩ := some1 h
  obtain ⟨u, h1, h2⟩ := sliceA_run (P := P) (w := w) hT (hT x).owA hx
  exact same (u := u) (by simp [execOp, h1]) h2 rfl (by simp)
 ·rename_i s x f
  obtain ⟨hx, rfl⟩ := some1 h
  obtain ⟨u, h1, h2⟩ := fieldAddrA_run (P := P) (w := w) (hT x) hx
  exact same (u := u) (by simp [execOp, h1]) h2 rfl (by simp)
 ·rename_i t x f
  obtain ⟨hx, rfl⟩ := some1 h
  obtain ⟨u, h1, h2⟩ := fieldA_run (P := P) (w := w) (hT x) hx
  exact same (u := u) (by simp [execOp, h1]) h2 rfl (by simp)
 ·rename_i t x i
  obtain ⟨hx, rfl⟩ := some1 h
  obtain ⟨u, h1, h2⟩ := indexAddrA_run (P := P) (w := w) (hT x).owA (hT i) hx
  exact same (u := u) (by simp [execOp, h1]) h2 rfl (by simp)
 ·rename_i t x i
  obtain ⟨hx, rfl⟩ := some1 h
  obtain ⟨u, h1, h2⟩ := indexA_run (P := P) (w := w) (hT x) (hT i) hx
  exact same (u := u) (by simp [execOp, h1]) h2 rfl (by simp)
 ·rename_i t i
  split at h
  ·rename_i xs hx
   obtain ⟨hg, rfl⟩ := some1 h
   have hr := hT t
   rw [hx] at hr
   cases hv : ρ t with
   | tuple vs =>
    rw [hv] at hr
    cases hr with
    | tup xs arr hl hr =>
     have hlt : i < arr.length := hl ▸ (xgI.1 hg).1
     refine same (u := arr.getD i undef) ?_ (hr i r hg) rfl (by simp)
     have hg' : (arr.toArray)[i]? = some (arr.getD i undef) := by rw [List.getElem?_toArray]; exact getD_get hlt
     simp only [execOp, hv, Instr.extract, hg', Sem.run_bind, Sem.run_pure, Result.andThen_ok]
   | _ => rw [hv] at hr; cases hr
  ·cases h
 ·simp [isAppend] at happ
 ·rename_i args argTypes
  split at h
  ·rename_i m k t u hargs htys
   obtain ⟨H1, hH, he⟩ := xoM.1 h
   injection he with h1 h2; subst h1 h2
   have ha : args = #[m, k] := by obtain ⟨args⟩ := args; simpa using hargs
   have hty := arr_two htys
   subst ha hty
   obtain ⟨w', h1, h2, h3⟩ := deleteA_run (u := u) (ty := type) hS (hT m) (hT k) hH
   have h1' : (builtin .delete #[t, u] type (#[m, k].map fun | .const _ => true | _ => false) (#[m, k].map ρ)).run P w = .ok (.value (.tuple #[])) w' := by
    simp [builtin, h1]
   exact ⟨F, L, w', .tuple #[], ⟨.inl h1', .tup [] [] rfl (fun k c hk => by simp at hk), h2, h3⟩, by simp⟩
  ·cases h
 ·rename_i b args argTypes hnap hnde
  obtain ⟨hx, rfl⟩ := some1 h
  have hb : b ≠ .append := by rintro rfl; simp [isAppend] at happ
  obtain ⟨u, h1, h2⟩ := builtinA_run (P := P) (w := w) (fun x => (hT x).owA) type hb hx (args.map fun | .const _ => true | _ => false)
  exact same (u := u) h1 h2 rfl (fun _ _ _ hh => by cases hh)
 ·rename_i t
  obtain ⟨p, hp, he⟩ := xoM.1 h
  injection he with h1 h2; subst h1 h2
  obtain ⟨hS', hgo⟩ := hS.mapNew
  refine ⟨F, _, _, .map (some w.heap.size), ⟨.inl ?_, .mp H.length w.heap.size ?_, hS', hgo⟩, by simp⟩
  ·simp [execOp, Instr.makeMap, newObj, Result.andThen, Sem.run]
  ·rw [← hS.len, xgR (Nat.le_refl _)]
   simp
 ·rename_i t m k c
  obtain ⟨hx, rfl⟩ := some1 h
  obtain ⟨u, h1, h2⟩ := lookupA_run hS (hT m) (hT k) hx
  exact same (u := u) (by simp [execOp, h1]) h2 rfl (by simp)
 ·rename_i t m k v
  obtain ⟨H1, hH, he⟩ := xoM.1 h
  injection he with h1 h2; subst h1 h2
  obtain ⟨w', h1, h2, h3⟩ := updateA_run hS (hT m) (hT k) (hT v) hH
  exact ⟨F, L, w', undef, ⟨.inr ⟨by simp [execOp, h1], rfl⟩, .un _, h2, h3⟩, by simp⟩
 ·rename_i t m k v
  obtain ⟨H1, hH, he⟩ := xoM.1 h
  injection he with h1 h2; subst h1 h2
  obtain ⟨w', h1, h2, h3⟩ := updateA_run hS (hT m) (hT k) (hT v) hH
  exact ⟨F, L, w', undef, ⟨.inr ⟨by simp [execOp, h1], rfl⟩, .un _, h2, h3⟩, by simp⟩
 ·cases h
end
end Go.Lv
set_option linter.unusedVariables false
set_option linter.unusedSimpArgs false
namespace Go.Lv
abbrev OSet := List (Nat × Nat × Nat)
def killO (d : Option Nat) (O : OSet) : OSet := match d with | some d => O.filter fun p => p.1 != d | none => O
def killA (d : Option Nat) (A : List (Nat × Nat)) : List (Nat × Nat) := match d with | some d => A.filter fun p => p.1 != d && p.2 != d | none => A
def addO (d : Option Nat) (c n : Nat) (O : OSet) : OSet := match d with | some d => (d, c, n) :: O | none => O
def rootOf (O : OSet) (A : List (Nat × Nat)) (t n : Nat) : Option Nat :=
 if O.contains (t, 0, n) then some t else (A.find? (·.1 == t)).bind fun p => if O.contains (p.2, 0, n) then some p.2 else none
def dropO (s : Nat) (O : OSet) : OSet := O.filter fun p => !(p.1 == s && p.2.1 == 0)
def isNil : Value → Bool
 | .slice none _ _ => true
 | _ => false
def takeO (O : OSet) (A : List (Nat × Nat)) (n : Nat) : Operand → Option OSet
 | .tmp t => (rootOf O A t n).map fun s => dropO s O
 | .const v => if isNil v then some O else none
 | _ => none
def takeArgs (A : List (Nat × Nat)) : List (Option Nat) → List Operand → OSet → Option OSet
 | [], _, O => some O
 | none :: ps, _ :: as_, O => takeArgs A ps as_ O
 | some n :: ps, a :: as_, O => (takeO O A n a).bind fun O => takeArgs A ps as_ O
 | _ :: _, [], _ => none
def elemSz (P : Program) (t : TypeId) : Option Nat := (elemOfT P t).bind (sizeT P)
def dstLt (N : Nat) : Option Nat → Bool
 | some d => decide (d < N)
 | none => true
def ownerOf (O : OSet) (A : List (Nat × Nat)) (s c : Nat) : Option (Nat × Nat × Nat) :=
 match O.find? (fun p => p.1 == s && p.2.1 == c) with
 | some p => some p
 | none => (A.find? (·.1 == s)).bind fun q => O.find? (fun p => p.1 == q.2 && p.2.1 == c)
def chkOp1 (P : Program) (C : Cfg) (o : Oper) (O : OSet) (A : List (Nat × Nat)) : Option (OSet × List (Nat × Nat)) :=
 let d := o.dst
 let keep := some (killO d O, killA d A)
 if C.spec d o.op = true then keep else
 match o.op with
 | .move (.const v) | .assign (.const v) => if isNil v then (match elemSz P o.type with | some n => some (addO d 0 n (killO d O), killA d A) | none => keep) else keep
 | .move (.tmp s) => match d with
  | some d' => if s == d' then keep else some (killO d O, (d', s) :: killA d A)
  | none => keep
 | .assign (.tmp s) => match d, ownerOf O A s 0 with
  | some d', some p => if s == d' || p.1 == d' then keep else some (addO d 0 p.2.2 (killO d (dropO p.1 O)), killA d A)
  | _, _ => keep
 | .extract (.tmp s) i => match d, ownerOf O A s (i + 1) with
  | some d', some p => if s == d' || p.1 == d' then keep else some (addO d 0 p.2.2 (killO d (O.filter fun q => !(q.1 == p.1 && q.2.1 == i + 1))), killA d A)
  | _, _ => keep
 | .buildSlice t _ _ => match elemSz P t with
  | some n => some (addO d 0 n (killO d O), killA d A)
  | none => none
 | .call { callee := .builtin .append, args, argTypes } =>
  match args.toList, argTypes.toList with
  | [b, _], [t, _] => (elemSz P t).bind fun n => (takeO O A n b).map fun O' => (addO d 0 n (killO d O'), killA d A)
  | _, _ => none
 | .call { callee := .value (.func g), args, .. } => (takeArgs A (C.sigD d g).ps args.toList O).map fun O' => ((match d with | some d0 => (C.sigD d g).rs.map fun p => (d0, p.1, p.2) | none => []) ++ killO d O', killA d A)
 | .call { callee := .value _, .. } => keep
 | _ => keep
def chkOp (P : Program) (C : Cfg) (N : Nat) (o : Oper) (O : OSet) (A : List (Nat × Nat)) : Option (OSet × List (Nat × Nat)) := if dstLt N o.dst = true then chkOp1 P C o O A else none
def chkOps (P : Program) (C : Cfg) (N : Nat) : List Oper → OSet → List (Nat × Nat) → Option (OSet × List (Nat × Nat))
 | [], O, A => some (O, A)
 | o :: r, O, A => (chkOp P C N o O A).bind fun p => chkOps P C N r p.1 p.2
def interO (O O' : OSet) : OSet := O.filter fun p => O'.contains p
def subO (O O' : OSet) : Bool := O.all fun p => O'.contains p
def joinO : Option OSet → Option OSet → Option OSet
 | none, x => x
 | x, none => x
 | some O, some O' => some (interO O O')
def looksE (all : Array Oper) (o : Oper) : List Nat :=
  (o.op.operands.toList.filterMap fun | .tmp t => some t | _ => none) ++
  (match o.guard with
   | some (g, _) => ((all[g]?).bind (·.dst)).toList
   | none => [])
def handed (all : Array Oper) (d : Option Nat) : Bool :=
 match d with
 | some d => all.any fun o => match o.op with
  | .call { callee := .builtin .append, args, .. } => match args.toList with | Operand.tmp t :: _ => t == d | _ => false
  | .call { callee := .builtin _, .. } => false
  | .call { args, .. } => args.any fun x => match x with | Operand.tmp t => t == d | _ => false
  | .move (.tmp t) => t == d
  | .assign (.tmp t) => t == d
  | _ => false
 | none => false
def effE (all : Array Oper) (o : Oper) : Bool := effOp o.op && !(buildOp o.op && !handed all o.dst)
def pureE (o : Oper) : Bool := pureOp o.op || buildOp o.op
theorem effE_eff {all : Array Oper} {o : Oper} (h : effE all o = true) : effOp o.op = true := by
 unfold effE at h
 exact (Bool.and_eq_true_iff.1 h).1
theorem effE_not {all : Array Oper} {o : Oper} (h : effOp o.op = false) : effE all o = false := by
 unfold effE; rw [h]; rfl
def aliasE (all : Array Oper) (i : Nat) : List (Nat × Nat) :=
 all.toList.zipIdx.filterMap fun (o, k) => match o.op, o.dst, o.guard with
  | .move (.tmp s), some d, none => if hasE all i k = true ∧ (all.toList.zipIdx.all fun (o', j) => !(o'.dst == some s) || (effE all o' && !alO o'.op && decide (i ≤ j))) = true then some (d, s) else none
  | _, _, _ => none
def drwOK (all : Array Oper) : Bool :=
 let l := all.toList.zipIdx
 (l.all fun (o, i) => (effE all o || pureE o) && o.after.all fun e => !Region.binds .any e || decide (e.on < i)) &&
 decide ((all.toList.filterMap (·.dst)).Nodup) &&
 (l.all fun (o, i) => (looksE all o).all fun t => l.all fun (o', j) => !(o'.dst == some t) || hasE all i j || hasE all j i) &&
 (l.all fun (o, i) => !effE all o || alO o.op || l.all fun (o', j) => !(effE all o') || !decide (j < i) || (l.any fun (o'', k) => effE all o'' && decide (j ≤ k) && decide (k < i) && reachE all 9 i k && (decide (k = j) || !alO o''.op))) &&
 (l.all fun (o, i) => !alO o.op || (o.guard.isNone && o.dst.isSome)) &&
 (l.all fun (o, i) => (looksE all o).all fun t => l.all fun (o', j) => !(alO o'.op && o'.dst == some t) || (effE all o && !alO o.op && hasE all i j))
def chkEffs (P : Program) (C : Cfg) (N : Nat) (all : Array Oper) : Nat → List Oper → OSet → Option OSet
 | _, [], O => some O
 | i, o :: r, O => if effE all o = true then (chkOp P C N o O (aliasE all i)).bind fun p => chkEffs P C N all (i + 1) r p.1 else if dstLt N o.dst = true then chkEffs P C N all (i + 1) r O else none
def muSl (C : Cfg) (o : Oper) : Bool := C.isMu o.dst && !C.isTk o.dst && (match o.op with | .slice .. => true | _ => false)
def nospec (C : Cfg) (all : Array Oper) : Bool := all.toList.all fun o => !pureE o || !C.spec o.dst o.op || muSl C o
def chkDraw (P : Program) (C : Cfg) (N : Nat) (all : Array Oper) (O : OSet) : Option OSet :=
 if (drwOK all && nospec C all) = true then chkEffs P C N all 0 all.toList (O.filter fun p => !(all.toList.any fun o => o.dst == some p.1 && (!effE all o || alO o.op))) else none
abbrev ChkR := Option OSet × List (Nat × OSet)
def fixLoop (f : OSet → Option ChkR) : Nat → OSet → Option ChkR
 | 0, _ => none
 | k + 1, O => match f O with
  | none => none
  | some (none, xs) => some (none, xs)
  | some (some O', xs) => if subO O O' = true then some (none, xs) else fixLoop f k (interO O O')
def chkCode (P : Program) (C : Cfg) (N : Nat) (ret : OSet → Bool) : Code → OSet → Option ChkR
 | .skip, O => some (some O, [])
 | .region _ ops false, O => (chkOps P C N ops.toList O []).map fun p => (some p.1, [])
 | .region _ ops true, O => (chkDraw P C N ops O).map fun O' => (some O', [])
 | .seq a b, O => match chkCode P C N ret a O with
  | some (some O1, xs) => (chkCode P C N ret b O1).map fun r => (r.1, xs ++ r.2)
  | r => r
 | .cond _ a b, O => match chkCode P C N ret a O, chkCode P C N ret b O with
  | some r1, some r2 => some (joinO r1.1 r2.1, r1.2 ++ r2.2)
  | _, _ => none
 | .block id a, O => (chkCode P C N ret a O).map fun r => (((r.2.filter (·.1 == id)).map (·.2)).foldl (fun x O => joinO x (some O)) r.1, r.2.filter (·.1 != id))
 | .loop a, O => fixLoop (chkCode P C N ret a) 4 O
 | .exit id, O => some (none, [(id, O)])
 | .ret, O => if ret O = true then some (none, []) else none
 | _, _ => none
def resT (fn : Func) (c : Nat) : Option Nat :=
 match fn.results.toList, c with
 | [.tmp t], 0 => some t
 | l, i + 1 => if 2 ≤ l.length then (match l[i]? with | some (.tmp t) => some t | _ => none) else none
 | _, _ => none
def retOK (fn : Func) (rs : List (Nat × Nat)) (O : OSet) : Bool :=
 (rs.all fun p => match resT fn p.1 with | some t => O.contains (t, 0, p.2) | none => false) &&
 rs.all fun p => rs.all fun q => p.1 == q.1 || !(resT fn p.1 == resT fn q.1)
def params0 : Nat → List (Option Nat) → OSet
 | _, [] => []
 | i, some n :: r => (i, 0, n) :: params0 (i + 1) r
 | i, none :: r => params0 (i + 1) r
def chkFn (P : Program) (C : Cfg) (f : FuncId) : Bool :=
 match P.funcs[f]? with
 | some fn => match fn.body with
  | some c => match chkCode P (C.at f) fn.ntmps (retOK fn (C.sig f).rs) c (params0 0 (C.sig f).ps) with
   | some (some O, []) => retOK fn (C.sig f).rs O && !(fn.name == "runtime.NumGoroutine")
   | some (none, []) => !(fn.name == "runtime.NumGoroutine")
   | _ => false
  | none => false
 | none => false
end Go.Lv
set_option linter.unusedVariables false
set_option linter.unusedSimpArgs false
namespace Go.Lv
abbrev NX : Nat → Prop := fun _ => False
def compOf (v : Value) : Nat → Value
 | 0 => v
 | i + 1 => match v with | .tuple vs => vs.getD i undef | _ => undef
def valAt (a : Act) (t c : Nat) : Value := compOf (a.tmps.getD t undef) c
structure Inv (P : Program) (G : Nat → Prop) (F0 : Facts) (L0 : List Nat) (w0 : World) (N : Nat) (O : OSet) (e : Env) (H : Heap) (F : Facts) (L : List Nat) (a : Act) (w : World) : Prop where
 st : St P F L NX w H
 goes : Goes G F0 L0 w0 F L w
 tie : ∀ t, Rel F L (e t) (a.tmps.getD t undef)
 size : N ≤ a.tmps.size
 defers : a.defers = []
 own : ∀ p ∈ O, Own F L NX w p.2.2 (valAt a p.1 p.2.1)
 apart : ∀ p ∈ O, ∀ q ∈ O, (p.1, p.2.1) ≠ (q.1, q.2.1) → ∀ B, (valAt a p.1 p.2.1).ownBlock = some B → (valAt a q.1 q.2.1).ownBlock ≠ some B
 frm : ∀ p ∈ O, ∀ B, (valAt a p.1 p.2.1).ownBlock = some B → G B ∨ w0.heap.size ≤ B
 glob : GlobAt P L0 G w0
section
variable {P : Program} {C : Cfg} {G : Nat → Prop} {F0 : Facts} {L0 : List Nat} {w0 : World} {N : Nat} {O O' : OSet} {e : Env} {H : Heap} {F : Facts} {L : List Nat} {a : Act} {w : World}
theorem Inv.ev (h : Inv P G F0 L0 w0 N O e H F L a w) (x : Operand) : Rel F L (ev e x) (a.eval x) := by
 cases x with
 | tmp t => exact h.tie t
 | const v => exact lit_rel F L v
 | global g => exact .un _
 | func f => exact .fn f [] [] rfl (fun k c hk => by simp at hk)
theorem Inv.sub (h : Inv P G F0 L0 w0 N O e H F L a w) (hs : ∀ p ∈ O', p ∈ O) : Inv P G F0 L0 w0 N O' e H F L a w :=
 ⟨h.st, h.goes, h.tie, h.size, h.defers, fun p hp => h.own p (hs p hp), fun p hp q hq => h.apart p (hs p hp) q (hs q hq), fun p hp => h.frm p (hs p hp), h.glob⟩
theorem own_block_lt {F : Facts} {L : List Nat} {X : Nat → Prop} {w : World} {n : Nat} {v : Value} (h : Own F L X w n v) {B : Nat} (hB : v.ownBlock = some B) : B < w.heap.size := by
 cases v with
 | slice a len cap =>
  cases a with
  | none => simp [Value.ownBlock] at hB
  | some ad => simp [Value.ownBlock] at hB; subst hB; exact (h ad len cap rfl).2.2.2.2.1
 | _ => simp [Value.ownBlock] at hB
theorem getD_put (a : Act) (d : Option Nat) (u : Value) (t : Nat) (hd : ∀ d', d = some d' → d' < a.tmps.size) : (a.put d u).tmps.getD t undef = if d = some t then u else a.tmps.getD t undef := by
 cases d with
 | none => simp [Act.put]
 | some d =>
  simp only [Act.put, Array.getD_eq_getD_getElem?, Array.getElem?_setIfInBounds, Option.some.injEq]
  by_cases h : d = t
  ·subst h
   simp [hd d rfl]
  ·simp [h]
theorem put_apply (e : Env) (d : Option Nat) (r : AV) (t : Nat) : put e d r t = if d = some t then r else e t := by
 cases d with
 | none => simp [put]
 | some d =>
  simp only [put, upd, Option.some.injEq]
  by_cases h : t = d
  ·subst h; simp
  ·simp [h, Ne.symm h]
theorem valAt_put (a : Act) (d : Option Nat) (u : Value) (t c : Nat) (hd : ∀ d', d = some d' → d' < a.tmps.size) (ht : d ≠ some t) : valAt (a.put d u) t c = valAt a t c := by
 unfold valAt
 rw [getD_put a d u t hd, if_neg ht]
theorem mem_killO {d : Option Nat} {p : Nat × Nat × Nat} (h : p ∈ killO d O) : p ∈ O ∧ d ≠ some p.1 := by
 cases d with
 | none => exact ⟨h, by simp⟩
 | some d =>
  simp only [killO, List.mem_filter, bne_iff_ne] at h
  exact ⟨h.1, fun e => h.2 (by injection e with e; exact e.symm)⟩
theorem Inv.step (h : Inv P G F0 L0 w0 N O e H F L a w) {G1 : Nat → Prop} {F' : Facts} {L' : List Nat} {w' : World} {H' : Heap} {d : Option Nat} {r : AV} {u : Value} {O1 new : OSet}
  (hd : ∀ d', d = some d' → d' < N) (hs : St P F' L' NX w' H') (hg : Goes G1 F L w F' L' w') (hr : Rel F' L' r u)
  (hG : ∀ B, B < w0.heap.size → G1 B → G B)
  (hO : ∀ p ∈ O1, p ∈ O) (hG1 : ∀ p ∈ O1, ∀ B, (valAt a p.1 p.2.1).ownBlock = some B → ¬ G1 B)
  (hnew : ∀ p ∈ new, d = some p.1 ∧ Own F' L' NX w' p.2.2 (compOf u p.2.1) ∧ ∀ B, (compOf u p.2.1).ownBlock = some B → G1 B ∨ w.heap.size ≤ B)
  (hfrm : ∀ p ∈ new, ∀ B, (compOf u p.2.1).ownBlock = some B → G B ∨ w0.heap.size ≤ B)
  (hap : ∀ p ∈ new, ∀ q ∈ new, (p.1, p.2.1) ≠ (q.1, q.2.1) → ∀ B, (compOf u p.2.1).ownBlock = some B → (compOf u q.2.1).ownBlock ≠ some B) :
  Inv P G F0 L0 w0 N (new ++ killO d O1) (put e d r) H' F' L' (a.put d u) w' := by
 have hd' : ∀ d', d = some d' → d' < a.tmps.size := fun d' he => Nat.lt_of_lt_of_le (hd d' he) h.size
 have hold : ∀ p ∈ killO d O1, p ∈ O ∧ d ≠ some p.1 ∧ p ∈ O1 := fun p hp => ⟨hO p (mem_killO hp).1, (mem_killO hp).2, (mem_killO hp).1⟩
 have hval : ∀ p ∈ killO d O1, valAt (a.put d u) p.1 p.2.1 = valAt a p.1 p.2.1 := fun p hp => valAt_put a d u _ _ hd' (hold p hp).2.1
 have hvaln : ∀ p ∈ new, valAt (a.put d u) p.1 p.2.1 = compOf u p.2.1 := fun p hp => by
  unfold valAt
  rw [getD_put a d u _ hd', if_pos (hnew p hp).1]
 have hown : ∀ p ∈ killO d O1, Own F' L' NX w' p.2.2 (valAt a p.1 p.2.1) := fun p hp => (h.own p (hold p hp).1).goes hg (hG1 p (hold p hp).2.2)
 have hlt : ∀ p ∈ killO d O1, ∀ B, (valAt a p.1 p.2.1).ownBlock = some B → B < w.heap.size := fun p hp B hB => own_block_lt (h.own p (hold p hp).1) hB
 refine ⟨hs, (h.goes.trans hg).weaken (fun B hB hh => hh.elim id (hG B hB)), fun t => ?_, ?_, ?_, fun p hp => ?_, fun p hp q hq hne B hB => ?_, fun p hp B hB => ?_, h.glob⟩
 ·rw [put_apply, getD_put a d u t hd']
  split
  ·exact hr
  ·exact (h.tie t).goes hg
 ·cases d with
  | none => exact h.size
  | some d => simpa [Act.put] using h.size
 ·cases d with
  | none => exact h.defers
  | some d => exact h.defers
 ·rcases List.mem_append.1 hp with hp | hp
  ·rw [hvaln p hp]; exact (hnew p hp).2.1
  ·rw [hval p hp]; exact hown p hp
 ·rcases List.mem_append.1 hp with hp | hp <;> rcases List.mem_append.1 hq with hq | hq
  ·rw [hvaln p hp] at hB; rw [hvaln q hq]; exact hap p hp q hq hne B hB
  ·rw [hvaln p hp] at hB; rw [hval q hq]
   intro hq'
   rcases (hnew p hp).2.2 B hB with h1 | h1
   ·exact hG1 q (hold q hq).2.2 B hq' h1
   ·have := hlt q hq B hq'; omega
  ·rw [hval p hp] at hB; rw [hvaln q hq]
   intro hq'
   rcases (hnew q hq).2.2 B hq' with h1 | h1
   ·exact hG1 p (hold p hp).2.2 B hB h1
   ·have := hlt p hp B hB; omega
  ·rw [hval p hp] at hB; rw [hval q hq]
   exact h.apart p (hold p hp).1 q (hold q hq).1 hne B hB
 ·rcases List.mem_append.1 hp with hp | hp
  ·rw [hvaln p hp] at hB; exact hfrm p hp B hB
  ·rw [hval p hp] at hB; exact h.frm p (hold p hp).1 B hB
def ArgsOwn (ps : List (Option Nat)) (F : Facts) (L : List Nat) (w : World) (vs : List Value) : Prop :=
 (∀ (k n : Nat), ps[k]? = some (some n) → Own F L NX w n (vs.getD k undef)) ∧
 ∀ (j k n m : Nat), ps[j]? = some (some n) → ps[k]? = some (some m) → j ≠ k → ∀ B, (vs.getD j undef).ownBlock = some B → (vs.getD k undef).ownBlock ≠ some B
def GP (ps : List (Option Nat)) (vs : List Value) : Nat → Prop := fun B => ∃ k n : Nat, ps[k]? = some (some n) ∧ (vs.getD k undef).ownBlock = some B
structure Ret (P : Program) (s : Sig) (F : Facts) (L : List Nat) (w : World) (vs : List Value) (r : AV) (H' : Heap) (v : Value) (F' : Facts) (L' : List Nat) (w' : World) : Prop where
 rel : Rel F' L' r v
 st : St P F' L' NX w' H'
 goes : Goes (GP s.ps vs) F L w F' L' w'
 own : ∀ p ∈ s.rs, Own F' L' NX w' p.2 (compOf v p.1) ∧ ∀ B, (compOf v p.1).ownBlock = some B → GP s.ps vs B ∨ w.heap.size ≤ B
 apart : ∀ p ∈ s.rs, ∀ q ∈ s.rs, p.1 ≠ q.1 → ∀ B, (compOf v p.1).ownBlock = some B → (compOf v q.1).ownBlock ≠ some B
def CallOK (P : Program) (s : Sig) (f : FuncId) (args : List AV) (H : Heap) (r : AV) (H' : Heap) : Prop :=
 ∀ (F : Facts) (L : List Nat) (w : World) (vs : List Value), St P F L NX w H → vs.length = args.length → (∀ (k : Nat) (c : AV), args[k]? = some c → Rel F L c (vs.getD k undef)) → ArgsOwn s.ps F L w vs → GlobAt P L (GP s.ps vs) w →
  Calls P f vs.toArray w (fun e w' => ∃ v F' L', e = .returned v ∧ Ret P s F L w vs r H' v F' L' w')
structure Callable (P : Program) (f : FuncId) : Prop where
 mk :: (out : ∃ fn, P.funcs[f]? = some fn ∧ fn.body.isSome = true ∧ (fn.name == "runtime.NumGoroutine") = false)
theorem callFunc_run {f : FuncId} (h : Callable P f) (vs : Array Value) : (callFunc f vs).run P w = .ok (.enter f vs) w := by
 obtain ⟨fn, h1, h2, h3⟩ := h.out
 have h5 : ¬ fn.name = "runtime.NumGoroutine" := by simpa using h3
 cases hb : fn.body with
 | none => rw [hb] at h2; cases h2
 | some c => simp [callFunc, h1, h5, hb]
end
end Go.Lv
set_option linter.unusedVariables false
set_option linter.unusedSimpArgs false
namespace Go.Lv
section
variable {P : Program} {C : Cfg} {G : Nat → Prop} {F0 : Facts} {L0 : List Nat} {w0 : World} {N : Nat} {O O' : OSet} {A A' : List (Nat × Nat)} {e : Env} {H : Heap} {F : Facts} {L : List Nat} {a : Act} {w : World}
def AliasOK (A : List (Nat × Nat)) (a : Act) : Prop := ∀ p ∈ A, a.tmps.getD p.1 undef = a.tmps.getD p.2 undef ∨ a.tmps.getD p.1 undef = undef
theorem mem_killA {d : Option Nat} {p : Nat × Nat} (h : p ∈ killA d A) : p ∈ A ∧ d ≠ some p.1 ∧ d ≠ some p.2 := by
 cases d with
 | none => exact ⟨h, by simp, by simp⟩
 | some d =>
  simp only [killA, List.mem_filter, Bool.and_eq_true, bne_iff_ne] at h
  exact ⟨h.1, fun e => h.2.1 (by injection e with e; exact e.symm), fun e => h.2.2 (by injection e with e; exact e.symm)⟩
theorem AliasOK.kill (hA : AliasOK A a) {d : Option Nat} (hd : ∀ d', d = some d' → d' < a.tmps.size) (u : Value) : AliasOK (killA d A) (a.put d u) := by
 intro p hp
 obtain ⟨h1, h2, h3⟩ := mem_killA hp
 rw [getD_put a d u _ hd, getD_put a d u _ hd, if_neg h2, if_neg h3]
 exact hA p h1
theorem quiet_ok (hI : Inv P G F0 L0 w0 N O e H F L a w) (hA : AliasOK A a) {o : Oper} {r : AV} {H' : Heap} (h : opA P e H o.op = some (r, H')) (happ : isAppend o.op = false)
  (hd : ∀ d', o.dst = some d' → d' < N) {O1 new : OSet} (hO : ∀ p ∈ O1, p ∈ O)
  (hnew : ∀ (F' : Facts) (L' : List Nat) (w' : World) (u : Value), Done P NX F L w o a.eval r H' F' L' w' u → (∀ t len ps, o.op = .buildSlice t len ps → ∃ el n, elemOfT P t = some el ∧ sizeT P el = some n ∧ Own F' L' NX w' n u ∧ u.ownBlock = some w.heap.size ∧ w.heap.size < w'.heap.size) →
   (∀ p ∈ new, o.dst = some p.1 ∧ Own F' L' NX w' p.2.2 (compOf u p.2.1) ∧ (∀ B, (compOf u p.2.1).ownBlock = some B → w.heap.size ≤ B ∨ (∃ q ∈ O, valAt a q.1 q.2.1 = compOf u p.2.1 ∧ ∀ q' ∈ O1, (q'.1, q'.2.1) ≠ (q.1, q.2.1)))) ∧ (∀ p ∈ new, ∀ q ∈ new, p = q) ∧ AliasOK A' (a.put o.dst u))
  {next : Act → World → Prop} {Q : Exit → Act → World → Prop}
  (hn : ∀ F' L' u w', Inv P G F0 L0 w0 N (new ++ killO o.dst O1) (put e o.dst r) H' F' L' (a.put o.dst u) w' → AliasOK A' (a.put o.dst u) → next (a.put o.dst u) w') : o.wp P a w next Q := by
 obtain ⟨F', L', w', u, hdone, hbs⟩ := opA_run hI.st (o := o) (ρ := a.eval) (fun x => hI.ev x) (fun _ => rfl) h happ
 obtain ⟨n1, n2, n3⟩ := hnew F' L' w' u hdone hbs
 have hfin : next (a.put o.dst u) w' := by
  refine hn F' L' _ w' ?_ n3
  have hgoes : Goes (fun B => ∃ p ∈ new, (compOf u p.2.1).ownBlock = some B) F L w F' L' w' := hdone.goes.weaken (fun _ _ h => h.elim)
  refine hI.step hd hdone.st hgoes hdone.rel ?_ hO ?_ (fun p hp => ⟨(n1 p hp).1, (n1 p hp).2.1, fun B hB => .inl ⟨p, hp, hB⟩⟩) ?_ ?_
  ·rintro B hB ⟨p, hp, hpB⟩
   rcases (n1 p hp).2.2 B hpB with h1 | ⟨q, hq, h1, _⟩
   ·have := hI.goes.size; omega
   ·rw [← h1] at hpB
    rcases hI.frm q hq B hpB with h2 | h2
    ·exact h2
    ·omega
  ·rintro q' hq' B hB ⟨p, hp, hpB⟩
   rcases (n1 p hp).2.2 B hpB with h1 | ⟨q, hq, h1, h2⟩
   ·have := own_block_lt (hI.own q' (hO q' hq')) hB; omega
   ·rw [← h1] at hpB
    exact hI.apart q' (hO q' hq') q hq (h2 q' hq') B hB hpB
  ·intro p hp B hpB
   rcases (n1 p hp).2.2 B hpB with h1 | ⟨q, hq, h1, _⟩
   ·exact .inr (by have := hI.goes.size; omega)
   ·rw [← h1] at hpB
    exact hI.frm q hq B hpB
  ·intro p hp q hq hne
   rw [n2 p hp q hq] at hne
   exact absurd rfl hne
 unfold Oper.wp
 rcases hdone.run with hr | ⟨hr, rfl⟩
 ·rw [hr]; exact hfin
 ·rw [hr]; exact hfin
theorem own_none {X : Nat → Prop} {n : Nat} {v : Value} (h : v.ownBlock = none) : Own F L X w n v := by
 intro ad len cap hv
 subst hv
 simp [Value.ownBlock] at h
theorem take_ok (hI : Inv P G F0 L0 w0 N O e H F L a w) (hA : AliasOK A a) {n : Nat} {x : Operand} (h : takeO O A n x = some O') :
  (∀ p ∈ O', p ∈ O) ∧ Own F L NX w n (a.eval x) ∧ (∀ B, (a.eval x).ownBlock = some B → G B ∨ w0.heap.size ≤ B) ∧ (∀ p ∈ O', ∀ B, (a.eval x).ownBlock = some B → (valAt a p.1 p.2.1).ownBlock ≠ some B) ∧
  ((∀ B, (a.eval x).ownBlock ≠ some B) ∨ ∃ q ∈ O, valAt a q.1 q.2.1 = a.eval x ∧ q.2.1 = 0 ∧ ∀ p ∈ O', (p.1, p.2.1) ≠ (q.1, q.2.1)) := by
 cases x with
 | tmp t =>
  obtain ⟨s, hs, rfl⟩ := xoM.1 h
  have key : (s, 0, n) ∈ O ∧ (a.tmps.getD t undef = a.tmps.getD s undef ∨ a.tmps.getD t undef = undef) := by
   unfold rootOf at hs
   split at hs
   ·rename_i hc
    injection hs with hs; subst hs
    exact ⟨by simpa using hc, .inl rfl⟩
   ·obtain ⟨p, hp, hs⟩ := xoB.1 hs
    split at hs
    ·rename_i hc
     injection hs with hs; subst hs
     have h1 := List.find?_some hp
     have h2 := List.mem_of_find?_eq_some hp
     simp at h1
     subst h1
     exact ⟨by simpa using hc, hA p h2⟩
    ·cases hs
  obtain ⟨k1, k2⟩ := key
  rcases k2 with k2 | k2
  rotate_left
  ·have hb : (a.eval (.tmp t)).ownBlock = none := by
    show (a.tmps.getD t undef).ownBlock = none
    rw [k2]; rfl
   exact ⟨fun p hp => (List.mem_filter.1 hp).1, own_none hb, fun B hB => by (rw [hb] at hB; cases hB), fun p hp B hB => by (rw [hb] at hB; cases hB), .inl fun B hB => by (rw [hb] at hB; cases hB)⟩
  have hv : a.eval (.tmp t) = valAt a s 0 := k2
  have hne : ∀ p ∈ dropO s O, (p.1, p.2.1) ≠ (s, 0) := by
   intro p hp hh
   simp only [dropO, List.mem_filter] at hp
   injection hh with h1 h2
   simp [h1, h2] at hp
  rw [hv]
  refine ⟨fun p hp => (List.mem_filter.1 hp).1, hI.own _ k1, hI.frm _ k1, fun p hp B hB hpB => ?_, .inr ⟨_, k1, rfl, rfl, hne⟩⟩
  exact hI.apart _ k1 p (List.mem_filter.1 hp).1 (fun h => hne p hp h.symm) B hB hpB
 | const v =>
  simp only [takeO] at h
  split at h
  ·rename_i hn
   injection h with h; subst h
   have hb : (a.eval (.const v)).ownBlock = none := by
    show v.ownBlock = none
    cases v with
    | slice ad l c => cases ad <;> simp_all [isNil, Value.ownBlock]
    | _ => simp_all [isNil]
   exact ⟨fun p hp => hp, own_none hb, fun B hB => by (rw [hb] at hB; cases hB), fun p hp B hB => by (rw [hb] at hB; cases hB), .inl fun B hB => by (rw [hb] at hB; cases hB)⟩
  ·cases h
 | global g => cases h
 | func f => cases h
theorem chunk_len (g : Bool) (n : Nat) : ∀ (k : Nat) (cs : List AV), (chunk g n k cs).length = k := by
 intro k
 induction k with
 | zero => intro cs; rfl
 | succ k ih => intro cs; simp [chunk, ih]
theorem chunk_get (g : Bool) (n : Nat) : ∀ (k : Nat) (cs : List AV) (i : Nat), i < k → (chunk g n k cs)[i]? = some (if g = true then .agg ((cs.drop (i * n)).take n) else (cs.drop (i * n)).headD .un) := by
 intro k
 induction k with
 | zero => intro cs i h; omega
 | succ k ih =>
  intro cs i h
  cases i with
  | zero => simp [chunk]
  | succ i =>
   simp only [chunk, List.getElem?_cons_succ]
   rw [ih _ i (by omega), List.drop_drop, Nat.add_mul, Nat.one_mul, Nat.add_comm n]
theorem one_cells {c : AV} (h : c.one = true) : c.cells = [c] := by
 cases c <;> simp_all [AV.one, AV.cells]
theorem chunk_cells {g : Bool} {n k : Nat} {cs : List AV} (hg : g = true ∨ n = 1) (hle : k * n ≤ cs.length) (hone : ∀ c ∈ cs, c.one = true) {i : Nat} {e : AV} (he : (chunk g n k cs)[i]? = some e) :
  e.cells.length = n ∧ ∀ m, m < n → e.cells[m]? = cs[i * n + m]? := by
 have hi : i < k := by
  have := (xgI.1 he).1
  rwa [chunk_len] at this
 have hin : i * n + n ≤ cs.length := by
  have : (i + 1) * n ≤ k * n := Nat.mul_le_mul_right n hi
  rw [Nat.add_mul, Nat.one_mul] at this
  omega
 rw [chunk_get g n k cs i hi] at he
 injection he with he
 cases g with
 | true =>
  simp only [if_true] at he
  subst he
  refine ⟨by simp [AV.cells]; omega, fun m hm => ?_⟩
  simp only [AV.cells]
  rw [List.getElem?_take, if_pos hm, List.getElem?_drop]
 | false =>
  have hn1 : n = 1 := by simpa using hg
  subst hn1
  have hlt : i < cs.length := by omega
  have hd : (cs.drop (i * 1)).headD .un = cs[i] := by
   rw [Nat.mul_one]
   cases hdr : cs.drop i with
   | nil => simp at hdr; omega
   | cons c l =>
    have : (cs.drop i)[0]? = some c := by rw [hdr]; rfl
    rw [List.getElem?_drop, Nat.add_zero, xgE hlt] at this
    injection this with this
    simp [this]
  rw [hd] at he
  simp only [Bool.false_eq_true, if_false] at he
  subst he
  rw [one_cells (hone _ (List.getElem_mem hlt))]
  refine ⟨rfl, fun m hm => ?_⟩
  have : m = 0 := by omega
  subst this
  simp [xgE hlt]
theorem mr_row (hS : St P F L NX w H) {j off len n B : Nat} {g : Bool} {cs : List AV} (hB : L[j]? = some B) (hj : H[j]? = some cs) (hg : g = true ∨ n = 1) (hn0 : 0 < n) (hl0 : 0 < len)
  (hle : off + len * n ≤ cs.length) (hone : cs.all AV.one = true) :
  ∃ news : List Value, news.length = len * n ∧ (∀ i u, news[i]? = some u → w.cell? ⟨B, off + i, none⟩ = some u) ∧ (∀ u ∈ news, u.oneCell' = true) ∧ Row F L n (chunk g n len (cs.drop off)) news := by
 have hln : 0 < len * n := Nat.mul_pos hl0 hn0
 have hne : cs ≠ [] := fun e => by rw [e] at hle; simp at hle; omega
 obtain ⟨arr, t, h1, h2, h3, h4⟩ := hS.obj j cs B hj hne (plainRow_spec (plainRow_one hone)).1 hB
 have hone' : ∀ c ∈ cs, c.one = true := List.all_eq_true.1 hone
 have hal : ((arr.drop off).take (len * n)).length = len * n := by simp; omega
 have hget : ∀ i, i < len * n → ((arr.drop off).take (len * n))[i]? = some (arr.getD (off + i) undef) := by
  intro i hi
  rw [List.getElem?_take, if_pos hi, List.getElem?_drop]
  exact getD_get (by omega)
 refine ⟨(arr.drop off).take (len * n), hal, fun i u hu => ?_, fun u hu => ?_, ⟨by rw [hal, chunk_len], fun i e hi => ?_, fun i e k c hi hk => ?_⟩⟩
 ·have hi : i < len * n := hal ▸ (xgI.1 hu).1
  rw [hget i hi] at hu
  rw [h1.cell, getD_get (by omega)]
  exact hu
 ·obtain ⟨i, hi⟩ := List.mem_iff_getElem?.1 hu
  have hil : i < len * n := hal ▸ (xgI.1 hi).1
  rw [hget i hil] at hi
  injection hi with hi
  subst hi
  have hlt : off + i < cs.length := by omega
  exact (h4 (off + i) _ (xgE hlt)).one (hone' _ (List.getElem_mem hlt))
 ·exact (chunk_cells hg (by simp; omega) (fun c hc => hone' c (List.mem_of_mem_drop hc)) hi).1
 ·obtain ⟨h5, h6⟩ := chunk_cells (k := len) hg (by simp; omega) (fun c hc => hone' c (List.mem_of_mem_drop hc)) hi
  have hkn : k < n := h5 ▸ (xgI.1 hk).1
  have hil : i < len := by
   have := (xgI.1 hi).1
   rwa [chunk_len] at this
  rw [h6 k hkn, List.getElem?_drop] at hk
  rw [xgD, hget _ (idx_lt hil hkn)]
  exact h4 _ c hk
theorem view_src (hS : St P F L NX w H) {tx e' : TypeId} (hu : P.underlying tx = some (.slice e')) {xy : AV} {v : Value} (hy : Rel F L xy v) {ys : List AV} {n : Nat} (hn0 : 0 < n) (hv : viewR P H tx xy = .sl ys) (hn : ∀ a ∈ ys, a.cells.length = n) :
  ∃ news, Src P n tx v ys.length news w ∧ Row F L n ys news := by
 have plain : Rel F L (.sl ys) v → ∃ news, Src P n tx v ys.length news w ∧ Row F L n ys news := by
  intro hy
  obtain ⟨ad, cap, vs, hv, hcap, hnone, hrow, hone, hF⟩ := hy.row hS hn
  refine ⟨vs, ?_, hrow⟩
  rw [hv]
  rcases Nat.eq_zero_or_pos ys.length with h0 | h0
  ·have hvs : vs = [] := List.eq_nil_of_length_eq_zero (by rw [hrow.len, h0, Nat.zero_mul])
   subst hvs
   rw [h0]
   cases ad with
   | none => exact Src.ofNil w hu cap
   | some ad => exact Src.ofSlice w hu ad 0 cap [] (by simp) (by simp) (by simp)
  ·obtain ⟨B, of, rfl, hf⟩ := hF (by
    intro hv0
    have := hrow.len
    rw [hv0] at this
    have h2 : 0 < ys.length * n := Nat.mul_pos h0 hn0
    simp at this
    omega)
   exact Src.ofSlice w hu _ _ _ vs hrow.len (fun j u hu => by rw [add_at]; exact (hS.mem _ _ _ (hf j u hu)).1) hone
 cases xy with
 | mr j off len n' g =>
  simp only [viewR] at hv
  split at hv
  ·rename_i e cs he hj
   split at hv
   ·rename_i hc
    obtain ⟨c1, c2, c3, c4, c5, c6⟩ := hc
    injection hv with hv
    cases hy with
    | mr _ _ _ _ cap B _ hB hcap hn' hroom hx =>
     obtain ⟨news, k1, k2, k3, k4⟩ := mr_row hS hB hj c3 hn' c4 c5 c6
     have hnn : n' = n := by
      have h0 : 0 < (chunk g n' len (cs.drop off)).length := by rw [chunk_len]; exact c4
      have e1 := k4.each 0 _ (xgE h0)
      have e2 := hn (chunk g n' len (cs.drop off))[0] (by rw [← hv]; exact List.getElem_mem h0)
      omega
     subst hnn
     have hyl : ys.length = len := by rw [← hv, chunk_len]
     rw [hyl, ← hv]
     exact ⟨news, Src.ofSlice w hu ⟨B, off, none⟩ len cap news k1 (fun i u hi => by rw [add_at]; exact k2 i u hi) k3, k4⟩
   ·cases hv
  ·cases hv
 | sl xs => simp only [viewR] at hv; injection hv with hv; subst hv; exact plain hy
 | ow xs j => simp only [viewR] at hv; injection hv with hv; subst hv; exact plain hy.owA
 | v x =>
  have hx : x = .slice none 0 0 ∧ ys = [] := by
   simp only [viewR] at hv
   split at hv
   ·rename_i hn; injection hv with hv; exact ⟨isNilV_spec hn, hv.symm⟩
   ·cases hv
  obtain ⟨rfl, rfl⟩ := hx
  obtain ⟨hv', _⟩ := hy.v_eq
  refine plain ?_
  rw [← hv']
  exact .sl0 none 0 (fun _ => rfl)
 | _ => simp only [viewR] at hv; cases hv
theorem append_ok (hI : Inv P G F0 L0 w0 N O e H F L a w) (hA : AliasOK A a) {o : Oper} {b y : Operand} {t tx : TypeId} {r : AV} {H' : Heap} (hop : o.op = .call { callee := .builtin .append, args := #[b, y], argTypes := #[t, tx] })
  (h : opA P e H o.op = some (r, H')) (hd : ∀ d', o.dst = some d' → d' < N) {n : Nat} (hn : elemSz P t = some n) (ht : takeO O A n b = some O')
  {next : Act → World → Prop} {Q : Exit → Act → World → Prop}
  (hnx : ∀ F' L' u w', Inv P G F0 L0 w0 N (addO o.dst 0 n (killO o.dst O')) (put e o.dst r) H' F' L' (a.put o.dst u) w' → AliasOK (killA o.dst A) (a.put o.dst u) → next (a.put o.dst u) w') : o.wp P a w next Q := by
 obtain ⟨t1, t2, t3, t4, t5⟩ := take_ok hI hA ht
 have hx := hI.ev b
 have hy := hI.ev y
 rw [hop] at h
 simp only [opA] at h
 obtain ⟨r', hr', he⟩ := xoM.1 h
 injection he with e1 e2
 subst e1 e2
 obtain ⟨el, hel, hszn⟩ := xoB.1 hn
 have hun : P.underlying t = some (.slice el) := by
  unfold elemOfT at hel
  split at hel
  ·injection hel with hel; subst hel; assumption
  ·cases hel
 have main : ∃ u w' F', (Builtin.append_ #[t, tx] o.type #[a.eval b, a.eval y]).run P w = .ok u w' ∧ Rel F' L r' u ∧ St P F' L NX w' H ∧ Goes (fun B => (a.eval b).ownBlock = some B) F L w F' L w' ∧ Own F' L NX w' n u ∧
   (∀ B, u.ownBlock = some B → (a.eval b).ownBlock = some B ∨ w.heap.size ≤ B) := by
  generalize ev e b = xb at hx hr'
  generalize ev e y = xy at hy hr'
  generalize hv : viewR P H tx xy = yy at hr'
  unfold builtinA at hr'
  split at hr'
  ·rename_i h1; simp at h1
  ·rename_i h1; simp at h1
  ·rename_i h1; simp at h1
  ·exact absurd ‹Builtin.append = Builtin.min› (by simp)
  ·exact absurd ‹Builtin.append = Builtin.max› (by simp)
  ·rename_i t' u' xs ys h1 h2 h3
   simp at h2 h3
   obtain ⟨rfl, rfl⟩ := h2
   obtain ⟨rfl, rfl⟩ := h3
   split at hr'
   ·rename_i el' eu hu1 hu2
    rw [hun] at hu1
    injection hu1 with hu1; injection hu1 with hu1; subst hu1
    split at hr'
    ·rename_i n' by_ z hn' hby hz
     rw [hszn] at hn'
     injection hn' with hn'; subst hn'
     split at hr'
     ·rename_i hc
      obtain ⟨c1, c2, c3, c4, c5⟩ := hc
      injection hr' with hr'; subst hr'
      obtain ⟨vs, hsrc, hrow⟩ := view_src hI.st hu2 hy c1 hv c5
      exact append_run hI.st hun hszn hby hz c2 c1 hx c4 t2 hsrc hrow rfl c3
     ·cases hr'
    ·cases hr'
   ·cases hr'
  ·rename_i t' u' xs s h1 h2 h3
   simp at h2 h3
   obtain ⟨rfl, rfl⟩ := h2
   obtain ⟨rfl, rfl⟩ := h3
   split at hr'
   ·rename_i el' hu1 hu2
    rw [hun] at hu1
    injection hu1 with hu1; injection hu1 with hu1; subst hu1
    split at hr'
    ·rename_i z0 hn' hby hz
     rw [hszn] at hn'
     injection hn' with hn'; subst hn'
     split at hr'
     ·rename_i hc
      obtain ⟨c1, c2⟩ := hc
      injection hr' with hr'; subst hr'
      have hxy : xy = .v (.string s) := by
       cases xy with
       | mr j off len n' g =>
        simp only [viewR] at hv
        split at hv
        ·split at hv <;> cases hv
        ·cases hv
       | v x =>
        simp only [viewR] at hv
        split at hv
        ·cases hv
        ·exact hv
       | _ => first | (simp only [viewR] at hv; cases hv; done) | (simp only [viewR] at hv; exact hv)
      subst hxy
      obtain ⟨hyv, _⟩ := hy.v_eq
      have hrow : Row F L 1 (s.data.toList.map byteA) (byteCells s) := by
       refine ⟨by simp [byteCells], fun i b hb => ?_, fun i b k c hb hk => ?_⟩
       ·rw [List.getElem?_map] at hb
        obtain ⟨c, _, rfl⟩ := xoM.1 hb
        rfl
       ·rw [List.getElem?_map] at hb
        obtain ⟨c', hc', rfl⟩ := xoM.1 hb
        have hk0 : k = 0 := by
         have := (xgI.1 hk).1
         simp [byteA, AV.cells] at this
         exact this
        subst hk0
        simp [byteA, AV.cells] at hk
        subst hk
        rw [Nat.mul_one, Nat.add_zero, xgD, byteCells, List.getElem?_map, hc']
        exact .sc _ rfl
      have hlen : (s.data.toList.map byteA).length = s.size := by simp
      rw [← hyv]
      exact append_run hI.st hun hszn hby hz rfl (by omega) hx c2 t2 (Src.ofString w hu2 s) hrow hlen (by omega)
     ·cases hr'
    ·cases hr'
   ·cases hr'
  ·cases hr'
 obtain ⟨u, w', F', h1, h2, h3, h4, h5, h6⟩ := main
 have hrun : (execOp a.eval o).run P w = .ok (.value u) w' := by
  unfold execOp
  simp only [hop, resolve, invoke, builtin, Sem.run_bind, Sem.run_pure, Result.andThen_ok, List.map_toArray, List.map_cons, List.map_nil, h1]
 unfold Oper.wp
 rw [hrun]
 refine hnx F' L _ w' ?_ (hA.kill (fun d' he => Nat.lt_of_lt_of_le (hd d' he) hI.size) u)
 have hst := fun new hnew => hI.step (O1 := O') (new := new) (u := u) (r := r') hd h3 h4 h2 (fun B hB hg => (t3 B hg).elim id (fun h => by omega)) t1 (fun p hp B hB hg => t4 p hp B hg hB) hnew
 have hf : ∀ B, u.ownBlock = some B → G B ∨ w0.heap.size ≤ B := fun B hB => by
  rcases h6 B hB with hh | hh
  ·exact t3 B hh
  ·exact .inr (by have := hI.goes.size; omega)
 cases hdst : o.dst with
 | none =>
  have := hst [] (by simp) (by simp) (by simp)
  simpa [addO, hdst] using this
 | some d =>
  have := hst [(d, 0, n)] (by
   intro p hp
   simp at hp
   subst hp
   exact ⟨hdst, h5, h6⟩) (by
   intro p hp
   simp at hp
   subst hp
   exact hf) (by
   intro p hp q hq hne
   simp at hp hq
   subst hp hq
   exact absurd rfl hne)
  simpa [addO, hdst] using this
end
end Go.Lv
set_option linter.unusedVariables false
set_option linter.unusedSimpArgs false
namespace Go.Lv
section
variable {P : Program} {C : Cfg} {G : Nat → Prop} {F0 : Facts} {L0 : List Nat} {w0 : World} {N : Nat} {O O' : OSet} {A A' : List (Nat × Nat)} {e : Env} {H : Heap} {F : Facts} {L : List Nat} {a : Act} {w : World}
theorem takeArgs_ok (hI : Inv P G F0 L0 w0 N O e H F L a w) (hA : AliasOK A a) : ∀ (ps : List (Option Nat)) (as_ : List Operand) (O1 O2 : OSet), (∀ p ∈ O1, p ∈ O) → takeArgs A ps as_ O1 = some O2 →
  (∀ p ∈ O2, p ∈ O1) ∧
  (∀ (k n : Nat), ps[k]? = some (some n) → Own F L NX w n ((as_.map a.eval).getD k undef) ∧ (∀ B, ((as_.map a.eval).getD k undef).ownBlock = some B → G B ∨ w0.heap.size ≤ B) ∧
   (∀ p ∈ O2, ∀ B, ((as_.map a.eval).getD k undef).ownBlock = some B → (valAt a p.1 p.2.1).ownBlock ≠ some B) ∧
   ((∀ B, ((as_.map a.eval).getD k undef).ownBlock ≠ some B) ∨ ∃ q ∈ O1, valAt a q.1 q.2.1 = (as_.map a.eval).getD k undef)) ∧
  (∀ (j k n m : Nat), ps[j]? = some (some n) → ps[k]? = some (some m) → j ≠ k → ∀ B, ((as_.map a.eval).getD j undef).ownBlock = some B → ((as_.map a.eval).getD k undef).ownBlock ≠ some B) := by
 intro ps
 induction ps with
 | nil =>
  intro as_ O1 O2 hO h
  simp only [takeArgs] at h
  injection h with h; subst h
  exact ⟨fun p hp => hp, fun k n hk => by simp at hk, fun j k n m hj => by simp at hj⟩
 | cons p0 ps ih =>
  intro as_ O1 O2 hO h
  cases as_ with
  | nil => cases p0 <;> simp [takeArgs] at h
  | cons x as_ =>
   cases p0 with
   | none =>
    simp only [takeArgs] at h
    obtain ⟨h1, h2, h3⟩ := ih as_ O1 O2 hO h
    refine ⟨h1, fun k n hk => ?_, fun j k n m hj hk hne => ?_⟩
    ·cases k with
     | zero => simp at hk
     | succ k => simpa using h2 k n (by simpa using hk)
    ·cases j with
     | zero => simp at hj
     | succ j =>
      cases k with
      | zero => simp at hk
      | succ k => simpa using h3 j k n m (by simpa using hj) (by simpa using hk) (by omega)
   | some n0 =>
    simp only [takeArgs] at h
    obtain ⟨Om, hm, h⟩ := xoB.1 h
    have hI1 := hI.sub hO
    obtain ⟨t1, t2, t3, t4, t5⟩ := take_ok hI1 hA hm
    obtain ⟨h1, h2, h3⟩ := ih as_ Om O2 (fun p hp => hO p (t1 p hp)) h
    refine ⟨fun p hp => t1 p (h1 p hp), fun k n hk => ?_, fun j k n m hj hk hne => ?_⟩
    ·cases k with
     | zero =>
      simp at hk
      subst hk
      refine ⟨by simpa using t2, by simpa using t3, fun p hp B hB => t4 p (h1 p hp) B (by simpa using hB), ?_⟩
      rcases t5 with t5 | ⟨q, hq, hv, _⟩
      ·exact .inl (by simpa using t5)
      ·exact .inr ⟨q, hq, by simpa using hv⟩
     | succ k =>
      obtain ⟨a1, a2, a3, a4⟩ := h2 k n (by simpa using hk)
      refine ⟨by simpa using a1, by simpa using a2, fun p hp B hB => a3 p hp B (by simpa using hB), ?_⟩
      rcases a4 with a4 | ⟨q, hq, hv⟩
      ·exact .inl (by simpa using a4)
      ·exact .inr ⟨q, t1 q hq, by simpa using hv⟩
    ·have cross : ∀ (k m : Nat), ps[k]? = some (some m) → ∀ B, (a.eval x).ownBlock = some B → ((as_.map a.eval).getD k undef).ownBlock ≠ some B := by
      intro k m hk B hB hB'
      rcases (h2 k m hk).2.2.2 with a4 | ⟨q, hq, hv⟩
      ·exact a4 B hB'
      ·rw [← hv] at hB'
       exact t4 q hq B hB hB'
     intro B hB
     cases j with
     | zero =>
      cases k with
      | zero => exact absurd rfl hne
      | succ k => simpa using cross k m (by simpa using hk) B (by simpa using hB)
     | succ j =>
      cases k with
      | zero =>
       intro hB'
       exact cross j n (by simpa using hj) B (by simpa using hB') (by simpa using hB)
      | succ k => simpa using h3 j k n m (by simpa using hj) (by simpa using hk) (by omega) B (by simpa using hB)
structure Known (P : Program) (C : Cfg) (call : CallF) : Prop where
 ok : ∀ g args H r H', call g args H = some (r, H') → CallOK P (C.sig g) g args H r H' ∧ Callable P g
 dyn : ∀ g, C.dyn g = true → C.sig g = {}
 alt : ∀ g s, C.alt g = some s → ∀ args H r H', s args H = some (r, H') → CallOK P {} g args H r H' ∧ Callable P g
theorem Known.via {call : CallF} (hK : Known P C call) {d : Option Nat} {g : FuncId} {args : List AV} {H H' : Heap} {r : AV} (h : C.via d call g args H = some (r, H')) : CallOK P (C.sigD d g) g args H r H' ∧ Callable P g := by
 unfold Cfg.via at h
 unfold Cfg.sigD
 cases hd : C.altD d g with
 | none => rw [hd] at h; exact hK.ok _ _ _ _ _ h
 | some s =>
  rw [hd] at h
  unfold Cfg.altD at hd
  cases hm : C.isMu d with
  | false => rw [hm] at hd; cases hd
  | true => rw [hm] at hd; exact hK.alt g s hd _ _ _ _ h
theorem Known.dynD {call : CallF} (hK : Known P C call) {d : Option Nat} {g : FuncId} (h : C.dyn g = true) : C.sigD d g = {} := by
 unfold Cfg.sigD
 cases C.altD d g with
 | none => exact hK.dyn g h
 | some s => rfl
theorem call_ok (hI : Inv P G F0 L0 w0 N O e H F L a w) (hA : AliasOK A a) {o : Oper} {g : FuncId} {x : Operand} {args : Array Operand} {ts : Array TypeId} {caps : List AV} {r : AV} {H' : Heap}
  (hop : o.op = .call { callee := .value x, args, argTypes := ts }) (hx : ev e x = .fn g caps) {s : Sig} (hk : CallOK P s g (args.toList.map (fun x => argE C g e x) ++ caps) H r H' ∧ Callable P g) (hd : ∀ d', o.dst = some d' → d' < N)
  {O1 : OSet} (hnocap : caps = [] ∨ s = {}) (ht : takeArgs A s.ps args.toList O = some O1)
  {next : Act → World → Prop} {Q : Exit → Act → World → Prop}
  (hn : ∀ F' L' u w', Inv P G F0 L0 w0 N ((match o.dst with | some d => s.rs.map fun p => (d, p.1, p.2) | none => []) ++ killO o.dst O1) (put e o.dst r) H' F' L' (a.put o.dst u) w' → AliasOK (killA o.dst A) (a.put o.dst u) → next (a.put o.dst u) w') : o.wp P a w next Q := by
 obtain ⟨hok, hcall⟩ := hk
 have hfx := hI.ev x
 rw [hx] at hfx
 obtain ⟨cv, hcl, hcr, hfv⟩ : ∃ cv : List Value, cv.length = caps.length ∧ (∀ (k : Nat) (c : AV), caps[k]? = some c → Rel F L c (cv.getD k undef)) ∧ a.eval x = .func (.func g) #[] cv.toArray := by
  generalize a.eval x = v at hfx
  cases hfx with
  | fn f xs arr hl hr => exact ⟨arr, hl, hr, rfl⟩
 obtain ⟨t1, t2, t3⟩ := takeArgs_ok hI hA s.ps args.toList O O1 (fun p hp => hp) ht
 obtain ⟨vs, hvs⟩ : ∃ vs : List Value, vs = args.toList.map a.eval ++ cv := ⟨_, rfl⟩
 have hrun : (execOp a.eval o).run P w = .ok (.enter g vs.toArray) w := by
  have : (args.map a.eval ++ cv.toArray) = vs.toArray := by apply Array.ext'; simp [hvs]
  unfold execOp
  simp only [hop, resolve, hfv, Deferred.ofValue, invoke, Sem.run_bind, Sem.run_pure, Result.andThen_ok, Array.empty_append]
  rw [this]
  exact callFunc_run hcall _
 have hin : ∀ (k n : Nat), s.ps[k]? = some (some n) → vs.getD k undef = (args.toList.map a.eval).getD k undef := by
  intro k n hk
  rcases hnocap with hc | hc
  ·subst hc
   have : cv = [] := List.eq_nil_of_length_eq_zero hcl
   rw [hvs, this, List.append_nil]
  ·rw [hc] at hk
   simp at hk
 have hargs : ArgsOwn s.ps F L w vs := by
  refine ⟨fun k n hk => ?_, fun j k n m hj hk hne B hB => ?_⟩
  ·rw [hin k n hk]; exact (t2 k n hk).1
  ·rw [hin j n hj] at hB
   rw [hin k m hk]
   exact t3 j k n m hj hk hne B hB
 have hrel : ∀ (k : Nat) (c : AV), (args.toList.map (fun x => argE C g e x) ++ caps)[k]? = some c → Rel F L c (vs.getD k undef) := by
  intro k c hk
  rw [hvs, xgD]
  rcases Nat.lt_or_ge k (args.toList.map fun x => argE C g e x).length with hl | hl
  ·rw [xgL hl] at hk
   rw [xgL (by simpa using hl), ← xgD]
   exact argsRel (f := fun x => argE C g e x) (argE_rel hI.ev (fun _ => rfl)) args k c hk
  ·rw [xgR hl] at hk
   rw [xgR (by simpa using hl), ← xgD]
   simpa using hcr _ c hk
 have hGP : ∀ B, GP s.ps vs B → (G B ∨ w0.heap.size ≤ B) ∧ ∀ p ∈ O1, (valAt a p.1 p.2.1).ownBlock ≠ some B := by
  rintro B ⟨k, n, hk, hB⟩
  rw [hin k n hk] at hB
  exact ⟨(t2 k n hk).2.1 B hB, fun p hp => (t2 k n hk).2.2.1 p hp B hB⟩
 have hglob : GlobAt P L (GP s.ps vs) w := by
  have h1 := hI.glob.goes hI.goes
  refine ⟨h1.ok, fun i hi => ⟨(h1.at_ i hi).1, (h1.at_ i hi).2.1, fun hg => ?_⟩⟩
  rcases (hGP i hg).1 with h2 | h2
  ·exact (h1.at_ i hi).2.2 h2
  ·have := (hI.glob.at_ i hi).1; omega
 have hcalls := hok F L w vs hI.st (by rw [hvs]; simp [hcl]) hrel hargs hglob
 unfold Oper.wp
 rw [hrun, Oper.upon_enter]
 refine hcalls.mono ?_
 rintro en w' ⟨v, F', L', rfl, hret⟩
 refine hn F' L' _ w' ?_ (hA.kill (fun d' he => Nat.lt_of_lt_of_le (hd d' he) hI.size) v)
 have hnew : ∀ p ∈ (match o.dst with | some d => s.rs.map fun p => (d, p.1, p.2) | none => [] : OSet), o.dst = some p.1 ∧ (p.2.1, p.2.2) ∈ s.rs := by
  intro p hp
  split at hp
  ·rename_i d hdst
   obtain ⟨q, hq, rfl⟩ := List.mem_map.1 hp
   exact ⟨hdst, hq⟩
  ·cases hp
 refine hI.step hd hret.st hret.goes hret.rel (fun B hB hg => ((hGP B hg).1).elim id (fun h => by omega)) t1 (fun p hp B hB hg => (hGP B hg).2 p hp hB) (fun p hp => ?_) (fun p hp B hB => ?_) (fun p hp q hq hne B hB => ?_)
 ·obtain ⟨h1, h2⟩ := hnew p hp
  exact ⟨h1, (hret.own _ h2).1, (hret.own _ h2).2⟩
 ·obtain ⟨h1, h2⟩ := hnew p hp
  rcases (hret.own _ h2).2 B hB with h3 | h3
  ·exact (hGP B h3).1
  ·exact .inr (by have := hI.goes.size; omega)
 ·obtain ⟨h1, h2⟩ := hnew p hp
  obtain ⟨h3, h4⟩ := hnew q hq
  rw [h1] at h3
  injection h3 with h3
  exact hret.apart _ h2 _ h4 (fun he => hne (by rw [h3, he])) B hB
theorem dst_lt {o : Oper} (h : chkOp P C N o O A = some (O', A')) : (∀ d', o.dst = some d' → d' < N) ∧ chkOp1 P C o O A = some (O', A') := by
 unfold chkOp at h
 split at h
 ·rename_i hc
  refine ⟨fun d' hd => ?_, h⟩
  rw [hd] at hc
  simpa [dstLt] using hc
 ·cases h
theorem keepO (hI : Inv P G F0 L0 w0 N O e H F L a w) (hA : AliasOK A a) {o : Oper} {r : AV} {H' : Heap} (h : opA P e H o.op = some (r, H')) (happ : isAppend o.op = false) (hd : ∀ d', o.dst = some d' → d' < N)
  {next : Act → World → Prop} {Q : Exit → Act → World → Prop}
  (hn : ∀ F' L' u w', Inv P G F0 L0 w0 N (killO o.dst O) (put e o.dst r) H' F' L' (a.put o.dst u) w' → AliasOK (killA o.dst A) (a.put o.dst u) → next (a.put o.dst u) w') : o.wp P a w next Q :=
 quiet_ok (A' := killA o.dst A) hI hA h happ hd (O1 := O) (new := []) (fun p hp => hp)
  (fun F' L' w' u hdone _ => ⟨fun p hp => by simp at hp, fun p hp => by simp at hp, hA.kill (fun d' he => Nat.lt_of_lt_of_le (hd d' he) hI.size) u⟩) hn
theorem done_val {X : Nat → Prop} {o : Oper} {ρ : Operand → Value} {r : AV} {H' : Heap} {F' : Facts} {L' : List Nat} {w' : World} {u x : Value} (h : Done P X F L w o ρ r H' F' L' w' u) (hr : (execOp ρ o).run P w = .ok (.value x) w) : u = x ∧ w' = w := by
 rcases h.run with h1 | ⟨h1, _⟩
 ·rw [hr] at h1
  injection h1 with h1 h2
  injection h1 with h1
  exact ⟨h1.symm, h2.symm⟩
 ·rw [hr] at h1
  cases h1
theorem moved_ok (hI : Inv P G F0 L0 w0 N O e H F L a w) (hA : AliasOK A a) {o : Oper} {p : Nat × Nat × Nat} {x : Value} {r : AV} {H' : Heap} (h : opA P e H o.op = some (r, H')) (happ : isAppend o.op = false) (hd : ∀ d', o.dst = some d' → d' < N)
  {d : Nat} (hdst : o.dst = some d) (hp : p ∈ O) (hrun : (execOp a.eval o).run P w = .ok (.value x) w) (hx : valAt a p.1 p.2.1 = x ∨ x.ownBlock = none)
  {O1 : OSet} (hO1 : ∀ q ∈ O1, q ∈ O ∧ (q.1, q.2.1) ≠ (p.1, p.2.1))
  {next : Act → World → Prop} {Q : Exit → Act → World → Prop}
  (hn : ∀ F' L' u w', Inv P G F0 L0 w0 N (addO o.dst 0 p.2.2 (killO o.dst O1)) (put e o.dst r) H' F' L' (a.put o.dst u) w' → AliasOK (killA o.dst A) (a.put o.dst u) → next (a.put o.dst u) w') : o.wp P a w next Q := by
 refine quiet_ok (A' := killA o.dst A) hI hA h happ hd (O1 := O1) (new := [(d, 0, p.2.2)]) (fun q hq => (hO1 q hq).1) (fun F' L' w' u hdone _ => ?_) (fun F' L' a' w' h1 h2 => hn F' L' a' w' (by rw [hdst] at h1 ⊢; exact h1) h2)
 obtain ⟨rfl, rfl⟩ := done_val hdone hrun
 refine ⟨fun q hq => ?_, fun q hq q' hq' => ?_, hA.kill (fun d' he => Nat.lt_of_lt_of_le (hd d' he) hI.size) _⟩
 ·simp at hq
  subst hq
  rcases hx with hx | hx
  ·refine ⟨hdst, ?_, fun B hB => .inr ⟨p, hp, hx, fun q' hq' => (hO1 q' hq').2⟩⟩
   have := (hI.own p hp).goes hdone.goes (fun B _ h => h.elim)
   rw [hx] at this
   exact this
  ·exact ⟨hdst, own_none hx, fun B hB => by (have hB : u.ownBlock = some B := hB); rw [hx] at hB; cases hB⟩
 ·simp at hq hq'
  rw [hq, hq']
theorem nil_ok (hI : Inv P G F0 L0 w0 N O e H F L a w) (hA : AliasOK A a) {o : Oper} {v : Value} {r : AV} {H' : Heap} (h : opA P e H o.op = some (r, H')) (happ : isAppend o.op = false) (hd : ∀ d', o.dst = some d' → d' < N)
  (hv : isNil v = true) (hrun : (execOp a.eval o).run P w = .ok (.value v) w) (n : Nat)
  {next : Act → World → Prop} {Q : Exit → Act → World → Prop}
  (hn : ∀ F' L' u w', Inv P G F0 L0 w0 N (addO o.dst 0 n (killO o.dst O)) (put e o.dst r) H' F' L' (a.put o.dst u) w' → AliasOK (killA o.dst A) (a.put o.dst u) → next (a.put o.dst u) w') : o.wp P a w next Q := by
 have hb : v.ownBlock = none := by
  cases v with
  | slice ad l c => cases ad <;> simp_all [isNil, Value.ownBlock]
  | _ => simp_all [isNil]
 cases hdst : o.dst with
 | none => rw [hdst] at hn; exact keepO hI hA h happ hd (by rw [hdst]; exact hn)
 | some d =>
  refine quiet_ok (A' := killA o.dst A) hI hA h happ hd (O1 := O) (new := [(d, 0, n)]) (fun q hq => hq) (fun F' L' w' u hdone _ => ?_) (fun F' L' a' w' h1 h2 => hn F' L' a' w' (by rw [hdst] at h1 ⊢; exact h1) h2)
  obtain ⟨rfl, rfl⟩ := done_val hdone hrun
  refine ⟨fun q hq => ?_, fun q hq q' hq' => ?_, hA.kill (fun d' he => Nat.lt_of_lt_of_le (hd d' he) hI.size) _⟩
  ·simp at hq
   subst hq
   refine ⟨hdst, own_none hb, fun B hB => ?_⟩
   rw [show compOf u 0 = u from rfl, hb] at hB
   cases hB
  ·simp at hq hq'
   rw [hq, hq']
end
end Go.Lv
