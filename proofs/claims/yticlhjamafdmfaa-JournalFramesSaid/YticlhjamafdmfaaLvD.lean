import Derived.Test.YticlhjamafdmfaaLvC
import Derived.Laws.BytesArg
set_option linter.unusedVariables false
set_option linter.unusedSimpArgs false
namespace Go.Lv
section
variable {P : Program} {F : Facts} {L : List Nat} {w : World} {X : Nat → Prop} {H : Heap}

theorem isAggT_run {t : TypeId} {b : Bool} (h : isAggT P t = some b) : (isAgg t).run P w = .ok b w := by
  unfold isAggT at h
  obtain ⟨d, hd, hb⟩ := Option.map_eq_some_iff.1 h
  unfold isAgg
  rw [Sem.run_bind, run_underlying hd w]
  cases d <;> simp_all

theorem sizeT_run {t : TypeId} {n : Nat} (h : sizeT P t = some n) : (sizeOf t).run P w = .ok n w := by
  unfold sizeT at h
  obtain ⟨d, hd, hb⟩ := Option.map_eq_some_iff.1 h
  simp [sizeOf, typeInfo, hd, hb]

theorem isAggT_true {t : TypeId} (h : isAggT P t = some true) : ∃ d, P.underlying t = some d ∧ d.isRow = true := by
  unfold isAggT at h
  obtain ⟨d, hd, hb⟩ := Option.map_eq_some_iff.1 h
  exact ⟨d, hd, by cases d <;> simp_all⟩

/-- Cells that lie in memory. -/
def CellsAt (F : Facts) (L : List Nat) (w : World) (B a : Nat) (cs : List AV) : Prop :=
  ∀ (k : Nat) c, cs[k]? = some c → ∃ v, w.cell? ⟨B, a + k, none⟩ = some v ∧ Rel F L c v

theorem loadVar_run {B a off : Nat} {cs : List AV} {t : TypeId} {r : AV} (hc : CellsAt F L w B a cs) (h : partA P t cs off = some r) :
    ∃ v, (loadVar t ⟨B, a + off, none⟩).run P w = .ok v w ∧ Rel F L r v := by
  unfold partA at h
  split at h
  · rename_i n hagg hn
    split at h
    · rename_i hle
      injection h with h; subst h
      obtain ⟨d, hd, hrow⟩ := isAggT_true hagg
      obtain ⟨vs, hvs⟩ : ∃ vs : List Value, vs = (List.range n).map fun k => (w.cell? ⟨B, a + off + k, none⟩).getD undef := ⟨_, rfl⟩
      have hl : vs.length = n := by simp [hvs]
      have hcell : ∀ k, k < n → ∃ v c, cs[off + k]? = some c ∧ w.cell? ⟨B, a + off + k, none⟩ = some v ∧ vs[k]? = some v ∧ Rel F L c v := by
        intro k hk
        have hlt : off + k < cs.length := by omega
        obtain ⟨v, hv, hr⟩ := hc (off + k) _ (List.getElem?_eq_getElem hlt)
        rw [show a + (off + k) = a + off + k by omega] at hv
        exact ⟨v, _, List.getElem?_eq_getElem hlt, hv, by simp [hvs, hk, hv], hr⟩
      have hrange : w.rangeAt B (a + off) vs := by
        intro k v hk
        have hkl : k < n := hl ▸ (List.getElem?_eq_some_iff.1 hk).1
        obtain ⟨v', c, _, h1, h2, _⟩ := hcell k hkl
        rw [h2] at hk
        injection hk with hk
        rw [h1, hk]
      refine ⟨_, run_loadVar_mid w B (a + off) t vs d hrange hd hrow (by unfold sizeT at hn; rw [hn, hl]), .agg _ vs ?_ fun k c hk => ?_⟩
      · simp [hl]; omega
      · rw [List.getElem?_take] at hk
        split at hk
        · rename_i hkn
          rw [List.getElem?_drop] at hk
          obtain ⟨v, c', h0, h1, h2, h3⟩ := hcell k hkn
          rw [h0] at hk
          injection hk with hk
          subst hk
          rw [List.getD_eq_getElem?_getD, h2]
          exact h3
        · cases hk
    · cases h
  · rename_i hagg
    obtain ⟨v, hv, hr⟩ := hc _ _ h
    exact ⟨v, by simp [loadVar, isAggT_run hagg, hv], hr⟩
  · cases h

theorem part_run {cs : List AV} {arr : List Value} {off : Nat} {t : TypeId} {r : AV} (hl : arr.length = cs.length) (hc : ∀ (k : Nat) c, cs[k]? = some c → Rel F L c (arr.getD k undef)) (h : partA P t cs off = some r) :
    ∃ v, (part t arr.toArray off).run P w = .ok v w ∧ Rel F L r v := by
  unfold partA at h
  split at h
  · rename_i n hagg hn
    split at h
    · rename_i hle
      injection h with h; subst h
      refine ⟨.agg ((arr.drop off).take n).toArray, ?_, .agg _ _ (by simp [hl]) fun k c hk => ?_⟩
      · simp [part, isAggT_run hagg, sizeT_run hn]
      · rw [List.getElem?_take] at hk
        split at hk
        · rename_i hkn
          rw [List.getElem?_drop] at hk
          have := hc _ _ hk
          rw [List.getD_eq_getElem?_getD] at this ⊢
          rw [List.getElem?_take, if_pos hkn, List.getElem?_drop]
          exact this
        · cases hk
    · cases h
  · rename_i hagg
    have h1 := hc _ _ h
    have hlt : off < arr.length := hl ▸ (List.getElem?_eq_some_iff.1 h).1
    rw [List.getD_eq_getElem?_getD, List.getElem?_eq_getElem hlt] at h1
    exact ⟨arr[off], by simp [part, isAggT_run hagg, hlt], h1⟩
  · cases h

theorem getD_get {arr : List Value} {k : Nat} (h : k < arr.length) : arr[k]? = some (arr.getD k undef) := by
  simp [List.getD_eq_getElem?_getD, List.getElem?_eq_getElem h]

theorem St.cellsAt (hS : St P F L X w H) {j B : Nat} {cs : List AV} (hj : H[j]? = some cs) (hpl : plainRow cs = true) (hB : L[j]? = some B) : CellsAt F L w B 0 cs := by
  intro k c hk
  obtain ⟨arr, t, h1, h2, _, h3⟩ := hS.obj j cs B hj (fun h => by rw [h] at hk; simp at hk) (plainRow_spec hpl).1 hB
  have hkl : k < arr.length := Nat.lt_of_lt_of_le (List.getElem?_eq_some_iff.1 hk).1 h2
  exact ⟨_, by rw [Nat.zero_add, cell?_eq h1, getD_get hkl], h3 k c hk⟩

theorem loadA_run (hS : St P F L X w H) {t : TypeId} {p r : AV} {v : Value} (hp : Rel F L p v) (h : loadA P H t p = some r) : ∃ u, (Instr.loadAt t v).run P w = .ok u w ∧ Rel F L r u := by
  unfold loadA at h
  split at h
  · rename_i j off
    cases hp
    rename_i B hB
    obtain ⟨cs, hcs, h⟩ := Option.bind_eq_some_iff.1 h
    split at h
    case isFalse => cases h
    rename_i hpl
    obtain ⟨u, hu, hr⟩ := loadVar_run (P := P) (w := w) (hS.cellsAt hcs hpl hB) h
    rw [Nat.zero_add] at hu
    exact ⟨u, by simp [Instr.loadAt, Instr.sureAddr, hu], hr⟩
  · rename_i e off
    cases hp
    rename_i B a vals hf hr
    have hc : CellsAt F L w B a e.cells := fun k c hk => ⟨vals k, (hS.mem _ _ _ (hf k (List.getElem?_eq_some_iff.1 hk).1)).1, hr k c hk⟩
    obtain ⟨u, hu, hr⟩ := loadVar_run (P := P) (w := w) hc h
    exact ⟨u, by simp [Instr.loadAt, Instr.sureAddr, hu], hr⟩
  · cases h

/-! ### A store -/
theorem storeVar_run {w : World} {B off n : Nat} {arr : List Value} {t ty : TypeId} {x : Value} (hw : w.heap[B]? = some (.cells arr.toArray t (0, 0))) (hn : sizeT P ty = some n) (hx : x.cells.size = n) (h1 : ∀ c ∈ x.cells.toList, c.oneCell' = true) (hle : off + n ≤ arr.length) :
    (storeVar ty ⟨B, off, none⟩ x).run P w = .ok () (w.setRow B (arr.take off ++ x.cells.toList ++ arr.drop (off + n)).toArray) := by
  have h := run_storeCells_at P B off t x.cells.toList 0 arr.toArray w hw (by simp [hx]; omega) h1
  simp only [Nat.add_zero, Array.length_toList, hx] at h
  simp [storeVar, sizeT_run hn, hx]
  simpa using h

theorem allOne {cs : List AV} {arr : List Value} (h : cs.all AV.one = true) (hl : arr.length = cs.length) (hr : ∀ (k : Nat) c, cs[k]? = some c → Rel F L c (arr.getD k undef)) : ∀ u ∈ arr, u.oneCell' = true := by
  intro u hu
  obtain ⟨k, hk⟩ := List.mem_iff_getElem?.1 hu
  have hkl : k < arr.length := (List.getElem?_eq_some_iff.1 hk).1
  have hkc : k < cs.length := hl ▸ hkl
  have h1 := hr k _ (List.getElem?_eq_getElem hkc)
  rw [List.getD_eq_getElem?_getD, hk] at h1
  exact h1.one (List.all_eq_true.1 h _ (List.getElem_mem hkc))

theorem storeA_run (hS : St P F L X w H) {t : TypeId} {p x : AV} {v u : Value} {H' : Heap} (hp : Rel F L p v) (hx : Rel F L x u) (h : storeA P H t p x = some H') :
    ∃ w', (Instr.storeAt t v u).run P w = .ok () w' ∧ St P F L X w' H' ∧ Goes (fun _ => False) F L w F L w' := by
  unfold storeA at h
  split at h
  · rename_i j off n hn
    cases hp
    rename_i B hB
    obtain ⟨cs, hcs, h⟩ := Option.bind_eq_some_iff.1 h
    split at h
    · rename_i hlen
      obtain ⟨hxl, hone, hle, hn0, hpl⟩ := hlen
      have hcne : cs ≠ [] := fun e => by rw [e] at hle; simp at hle; omega
      injection h with h; subst h
      obtain ⟨arr, ty, hw, hal, hrm, har⟩ := hS.obj j cs B hcs hcne (plainRow_spec hpl).1 hB
      have hun : x ≠ .un := by
        rintro rfl
        simp [AV.cells, AV.one] at hone
      have old : ∀ (j' : Nat) cs', (H.set j (cs.take off ++ x.cells ++ cs.drop (off + n)))[j']? = some cs' → cs' ≠ [] → ∃ d, H[j']? = some d ∧ d ≠ [] := by
        intro j' cs' h1 h2
        by_cases hjj : j' = j
        · subst hjj; exact ⟨cs, hcs, hcne⟩
        · rw [List.getElem?_set_ne (fun e => hjj e.symm)] at h1
          exact ⟨cs', h1, h2⟩
      have hun2 : ∀ lo, x ≠ .tk lo := by
        rintro lo rfl
        simp [AV.cells, AV.one] at hone
      have hun3 : ∀ ks vs, x ≠ .mv ks vs := by
        rintro ks vs rfl
        simp [AV.cells, AV.one] at hone
      obtain ⟨hsz, hcells⟩ := hx.cells hun hun2 hun3
      have ho := allOne (F := F) (L := L) hone (by rw [Array.length_toList]; exact hsz) hcells
      have hrun := storeVar_run (P := P) (ty := t) hw hn (hsz.trans hxl) ho (Nat.le_trans hle hal)
      have hBlt : B < w.heap.size := hS.ltL (mem_of_get hB)
      have hgo : Goes (fun _ => False) F L w F L (w.setRow B (arr.take off ++ u.cells.toList ++ arr.drop (off + n)).toArray) := by
        refine ⟨by simp, fun b hb _ hbL => ⟨?_, fun i => rfl⟩, fun _ _ _ h => h, fun _ _ h => h, fun _ h => .inl h, ⟨rfl, rfl, rfl⟩, fun _ => Nat.le_refl _⟩
        exact setRow_other w B b _ (fun e => hbL (e ▸ mem_of_get hB))
      refine ⟨_, by simp [Instr.storeAt, Instr.sureAddr]; simpa using hrun, ⟨fun b i v hv => ?_, by simp [hS.len], fun j' cs' B' hj' hne' hmv' hB' => ?_, fun b hb => by simpa using hS.lt b hb, fun j' cs' B' hj' hne' hB' i hi => ?_, hS.nox, fun i1 j1 c1 c2 B1 hi1 hn1 hj1 hn2 hb1 hb2 => ?_, fun b hb => by simpa using hS.xlt b hb, fun b hb => hS.room0 b (by simpa using hb), fun j' ks' vs' B' hj' hB' => ?_⟩, hgo⟩
      · obtain ⟨h1, h2⟩ := hS.mem _ _ _ hv
        refine ⟨?_, h2⟩
        rw [← h1]
        refine cell?_same (setRow_other w B b _ (fun e => ?_))
        subst e
        rw [hS.nof j cs b hcs hcne hB i (by rw [(plainRow_spec hpl).2]; exact Nat.zero_le _)] at hv
        cases hv
      · by_cases hjj : j' = j
        · subst hjj
          rw [hB] at hB'
          injection hB' with hB'
          subst hB'
          have hjl : j' < H.length := (List.getElem?_eq_some_iff.1 hcs).1
          rw [List.getElem?_set_self hjl] at hj'
          injection hj' with hj'
          subst hj'
          have hul : u.cells.toList.length = n := by simp [hsz, hxl]
          refine ⟨_, ty, setRow_heap w B _ _ ty _ hw, by simp [hsz]; omega, by simp only [List.length_append, List.length_take, List.length_drop, hul]; omega, fun k c hk => ?_⟩
          have hol : (arr.take off).length = off := by simp; omega
          have hcl : (cs.take off).length = off := by simp; omega
          have hul : u.cells.toList.length = n := by simp [hsz, hxl]
          rw [List.getD_eq_getElem?_getD]
          by_cases hk1 : k < off
          · rw [List.append_assoc, List.getElem?_append_left (by rw [hcl]; exact hk1), List.getElem?_take, if_pos hk1] at hk
            rw [List.append_assoc, List.getElem?_append_left (by rw [hol]; exact hk1), List.getElem?_take, if_pos hk1, ← List.getD_eq_getElem?_getD]
            exact har k c hk
          · by_cases hk2 : k < off + n
            · rw [List.append_assoc, List.getElem?_append_right (by rw [hcl]; omega), hcl, List.getElem?_append_left (by omega)] at hk
              rw [List.append_assoc, List.getElem?_append_right (by rw [hol]; omega), hol, List.getElem?_append_left (by omega), ← List.getD_eq_getElem?_getD]
              exact hcells _ c hk
            · rw [List.getElem?_append_right (by rw [List.length_append, hcl]; omega), List.length_append, hcl, hxl, List.getElem?_drop] at hk
              rw [List.getElem?_append_right (by rw [List.length_append, hol, hul]; omega), List.length_append, hol, hul, List.getElem?_drop, ← List.getD_eq_getElem?_getD]
              exact har _ c hk
        · rw [List.getElem?_set_ne (fun e => hjj e.symm)] at hj'
          obtain ⟨arr', ty', h1, h2, h3⟩ := hS.obj j' cs' B' hj' hne' hmv' hB'
          refine ⟨arr', ty', ?_, h2, h3⟩
          rw [setRow_other w B B' _ (fun e => hjj (hS.inj _ _ _ _ B hj' hne' hcs hcne (e ▸ hB') hB))]
          exact h1
      · by_cases hjj : j' = j
        · subst hjj
          exact hS.nof j' cs B' hcs hcne hB' i (by rw [(plainRow_spec hpl).2]; exact Nat.zero_le _)
        · rw [List.getElem?_set_ne (fun e => hjj e.symm)] at hj'
          exact hS.nof j' cs' B' hj' hne' hB' i hi
      · obtain ⟨d1, h1, h2⟩ := old i1 c1 hi1 hn1
        obtain ⟨d2, h3, h4⟩ := old j1 c2 hj1 hn2
        exact hS.inj i1 j1 d1 d2 B1 h1 h2 h3 h4 hb1 hb2
      · by_cases hjj : j' = j
        · exfalso
          subst hjj
          have hjl : j' < H.length := (List.getElem?_eq_some_iff.1 hcs).1
          rw [List.getElem?_set_self hjl] at hj'
          injection hj' with hj'
          have h1 : (cs.take off ++ x.cells ++ cs.drop (off + n)).length = 1 := by rw [hj']; rfl
          simp only [List.length_append, List.length_take, List.length_drop] at h1
          have hx1 : x.cells = [.mv ks' vs'] := by
            have h2 : (cs.take off) = [] := List.eq_nil_of_length_eq_zero (by simp; omega)
            have h3 : (cs.drop (off + n)) = [] := List.eq_nil_of_length_eq_zero (by simp; omega)
            rw [h2, h3] at hj'; simpa using hj'
          rw [hx1] at hone
          simp [AV.one] at hone
        · rw [List.getElem?_set_ne (fun e => hjj e.symm)] at hj'
          refine (hS.mob j' ks' vs' B' hj' hB').goes hgo ?_
          exact setRow_other w B B' _ (fun e => hjj (hS.inj _ _ _ _ B hj' (by simp) hcs hcne (e ▸ hB') hB))
    · cases h
  · cases h
end
end Go.Lv
