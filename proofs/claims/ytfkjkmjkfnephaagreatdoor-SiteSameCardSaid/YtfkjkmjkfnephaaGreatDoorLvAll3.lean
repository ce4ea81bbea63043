/- A value semantics of the loaded code, its soundness, and walks through functions over it. -/
import Derived.Test.YtfkjkmjkfnephaaGreatDoorLvAll2
import Derived.Laws.BytesArg
set_option linter.unusedVariables false
set_option linter.unusedSimpArgs false
namespace Go.Lv
section
variable {P : Program} {F : Facts} {L : List Nat} {w : World} {X : Nat → Prop} {H : Heap}
theorem isAggT_true {t : TypeId} (h : isAggT P t = some true) : ∃ d, P.underlying t = some d ∧ d.isRow = true := by
 unfold isAggT at h
 obtain ⟨d, hd, hb⟩ := xoM.1 h
 exact ⟨d, hd, by cases d <;> simp_all⟩
def CellsAt (F : Facts) (L : List Nat) (w : World) (B a : Nat) (cs : List AV) : Prop :=
 ∀ (k : Nat) c, cs[k]? = some c → ∃ v, w.cell? ⟨B, a + k, none⟩ = some v ∧ Rel F L c v
theorem loadVar_run {B a off : Nat} {cs : List AV} {t : TypeId} {r : AV} (hc : CellsAt F L w B a cs) (h : partA P t cs off = some r) :
  ∃ v, (loadVar t ⟨B, a + off, none⟩).run P w = .ok v w ∧ Rel F L r v := by
 unfold partA at h
 split at h
 ·rename_i n hagg hn
  split at h
  ·rename_i hle
   injection h with h; subst h
   obtain ⟨d, hd, hrow⟩ := isAggT_true hagg
   obtain ⟨vs, hvs⟩ : ∃ vs : List Value, vs = (List.range n).map fun k => (w.cell? ⟨B, a + off + k, none⟩).getD undef := ⟨_, rfl⟩
   have hl : vs.length = n := by simp [hvs]
   have hcell : ∀ k, k < n → ∃ v c, cs[off + k]? = some c ∧ w.cell? ⟨B, a + off + k, none⟩ = some v ∧ vs[k]? = some v ∧ Rel F L c v := by
    intro k hk
    have hlt : off + k < cs.length := by omega
    obtain ⟨v, hv, hr⟩ := hc (off + k) _ (xgE hlt)
    rw [show a + (off + k) = a + off + k by omega] at hv
    exact ⟨v, _, xgE hlt, hv, by simp [hvs, hk, hv], hr⟩
   have hrange : w.rangeAt B (a + off) vs := by
    intro k v hk
    have hkl : k < n := hl ▸ (xgI.1 hk).1
    obtain ⟨v', c, _, h1, h2, _⟩ := hcell k hkl
    rw [h2] at hk
    injection hk with hk
    rw [h1, hk]
   refine ⟨_, run_loadVar_mid w B (a + off) t vs d hrange hd hrow (by unfold sizeT at hn; rw [hn, hl]), .agg _ vs ?_ fun k c hk => ?_⟩
   ·simp [hl]; omega
   ·rw [List.getElem?_take] at hk
    split at hk
    ·rename_i hkn
     rw [List.getElem?_drop] at hk
     obtain ⟨v, c', h0, h1, h2, h3⟩ := hcell k hkn
     rw [h0] at hk
     injection hk with hk
     subst hk
     rw [xgD, h2]
     exact h3
    ·cases hk
  ·cases h
 ·rename_i hagg
  obtain ⟨v, hv, hr⟩ := hc _ _ h
  exact ⟨v, by simp [loadVar, isAggT_run hagg, hv], hr⟩
 ·cases h
theorem getD_get {arr : List Value} {k : Nat} (h : k < arr.length) : arr[k]? = some (arr.getD k undef) := by
 simp [xgD, xgE h]
theorem St.cellsAt (hS : St P F L X w H) {j B : Nat} {cs : List AV} (hj : H[j]? = some cs) (hpl : plainRow cs = true) (hB : L[j]? = some B) : CellsAt F L w B 0 cs := by
 intro k c hk
 obtain ⟨arr, t, h1, h2, _, h3⟩ := hS.obj j cs B hj (fun h => by rw [h] at hk; simp at hk) (plainRow_spec hpl).1 hB
 have hkl : k < arr.length := Nat.lt_of_lt_of_le (xgI.1 hk).1 h2
 exact ⟨_, by rw [Nat.zero_add, h1.cell, getD_get hkl], h3 k c hk⟩
theorem loadA_run (hS : St P F L X w H) {t : TypeId} {p r : AV} {v : Value} (hp : Rel F L p v) (h : loadA P H t p = some r) : ∃ u, (Instr.loadAt t v).run P w = .ok u w ∧ Rel F L r u := by
 unfold loadA at h
 split at h
 ·rename_i j off
  cases hp
  rename_i B hB
  obtain ⟨cs, hcs, h⟩ := xoB.1 h
  split at h
  case isFalse => cases h
  rename_i hpl
  obtain ⟨u, hu, hr⟩ := loadVar_run (P := P) (w := w) (hS.cellsAt hcs hpl hB) h
  rw [Nat.zero_add] at hu
  exact ⟨u, by simp [Instr.loadAt, Instr.sureAddr, hu], hr⟩
 ·rename_i e off
  cases hp
  rename_i B a vals hf hr
  have hc : CellsAt F L w B a e.cells := fun k c hk => ⟨vals k, (hS.mem _ _ _ (hf k (xgI.1 hk).1)).1, hr k c hk⟩
  obtain ⟨u, hu, hr⟩ := loadVar_run (P := P) (w := w) hc h
  exact ⟨u, by simp [Instr.loadAt, Instr.sureAddr, hu], hr⟩
 ·cases h
theorem run_storeCells_beyond (P : Program) (g o : Nat) (t : TypeId) (fz : Nat × Nat) : ∀ (vs : List Value) (i : Nat) (cur : Array Value) (w : World), w.heap[g]? = some (.cells cur t fz) → (o + i + vs.length ≤ fz.1 ∨ fz = (0, 0)) → o + i + vs.length ≤ cur.size → (∀ v ∈ vs, v.oneCell' = true) →
  (storeCells ⟨g, o, none⟩ vs i).run P w = .ok () (w.setRow g (cur.toList.take (o + i) ++ vs ++ cur.toList.drop (o + i + vs.length)).toArray)
 | [], i, cur, w, hg, _, _, _ => by
  simp only [storeCells, List.append_nil, List.length_nil, Nat.add_zero, List.take_append_drop, Array.toArray_toList]
  rw [setRow_self w g cur t fz hg]
  rfl
 | v :: rest, i, cur, w, hg, hfz, hl, h1 => by
  have hi : o + i < cur.size := by simp at hl; omega
  have hadd : (⟨g, o, none⟩ : Addr).add i = ⟨g, o + i, none⟩ := by unfold Addr.add; split <;> simp_all
  have hcell : w.cell? ⟨g, o + i, none⟩ = some cur[o + i] := by simp [World.cell?, hg, hi]
  have hfro : w.frozen? ⟨g, o + i, none⟩ = false := by
   obtain ⟨lo, hi'⟩ := fz
   simp only [World.frozen?, hg, Bool.and_eq_false_iff, decide_eq_false_iff_not]
   rcases hfz with hfz | hfz
   ·left; simp at hfz; omega
   ·right; injection hfz with h3 h4; omega
  have hst : (store ((⟨g, o, none⟩ : Addr).add i) v).run P w = .ok () (w.setRow g (cur.setIfInBounds (o + i) v)) := by
   rw [hadd, run_store P w _ v _ (h1 v (by simp)), hcell]
   simp [hfro, setCell_eq_setRow w g (o + i) cur t fz v hg]
  have ih := run_storeCells_beyond P g o t fz rest (i + 1) (cur.setIfInBounds (o + i) v) (w.setRow g (cur.setIfInBounds (o + i) v)) (setRow_heap w g cur _ t _ hg) (by rcases hfz with h | h; (· left; simp at h; omega); (· right; exact h)) (by simp at hl ⊢; omega) (fun x hx => h1 x (by simp [hx]))
  simp only [storeCells, Sem.run_bind, hst, Result.andThen_ok, ih, setRow_setRow]
  congr 3
  have e := list_seg_step cur.toList (o + i) v rest (by simp at hl ⊢; omega)
  simpa [Array.toList_setIfInBounds, Nat.add_assoc] using e
theorem storeVar_run {w : World} {B off n : Nat} {arr : List Value} {t ty : TypeId} {x : Value} (hw : Holds w B arr t) (hn : sizeT P ty = some n) (hx : x.cells.size = n) (h1 : ∀ c ∈ x.cells.toList, c.oneCell' = true) (hle : off + n ≤ arr.length) :
  (storeVar ty ⟨B, off, none⟩ x).run P w = .ok () (w.setRow B (arr.take off ++ x.cells.toList ++ arr.drop (off + n)).toArray) := by
 obtain ⟨fr, hw, hfr⟩ := hw
 have h := run_storeCells_beyond P B off t fr x.cells.toList 0 arr.toArray w hw (by simp [hx]; rcases hfr with h | h; (· left; omega); (· right; exact h)) (by simp [hx]; omega) h1
 simp only [Nat.add_zero, Array.length_toList, hx] at h
 simp [storeVar, sizeT_run hn, hx]
 simpa using h
theorem allOne {cs : List AV} {arr : List Value} (h : cs.all AV.one = true) (hl : arr.length = cs.length) (hr : ∀ (k : Nat) c, cs[k]? = some c → Rel F L c (arr.getD k undef)) : ∀ u ∈ arr, u.oneCell' = true := by
 intro u hu
 obtain ⟨k, hk⟩ := List.mem_iff_getElem?.1 hu
 have hkl : k < arr.length := (xgI.1 hk).1
 have hkc : k < cs.length := hl ▸ hkl
 have h1 := hr k _ (xgE hkc)
 rw [xgD, hk] at h1
 exact h1.one (List.all_eq_true.1 h _ (List.getElem_mem hkc))
theorem storeA_run (hS : St P F L X w H) {t : TypeId} {p x : AV} {v u : Value} {H' : Heap} (hp : Rel F L p v) (hx : Rel F L x u) (h : storeA P H t p x = some H') :
  ∃ w', (Instr.storeAt t v u).run P w = .ok () w' ∧ St P F L X w' H' ∧ Goes (fun _ => False) F L w F L w' := by
 unfold storeA at h
 split at h
 ·rename_i j off n hn
  cases hp
  rename_i B hB
  obtain ⟨cs, hcs, h⟩ := xoB.1 h
  split at h
  ·rename_i hlen
   obtain ⟨hxl, hone, hle, hn0, hpl⟩ := hlen
   have hcne : cs ≠ [] := fun e => by rw [e] at hle; simp at hle; omega
   injection h with h; subst h
   obtain ⟨arr, ty, hw, hal, hrm, har⟩ := hS.obj j cs B hcs hcne (plainRow_spec hpl).1 hB
   have hun : x ≠ .un := by
    rintro rfl
    simp [AV.cells, AV.one] at hone
   have old : ∀ (j' : Nat) cs', (H.set j (cs.take off ++ x.cells ++ cs.drop (off + n)))[j']? = some cs' → cs' ≠ [] → ∃ d, H[j']? = some d ∧ d ≠ [] := by
    intro j' cs' h1 h2
    by_cases hjj : j' = j
    ·subst hjj; exact ⟨cs, hcs, hcne⟩
    ·rw [List.getElem?_set_ne (fun e => hjj e.symm)] at h1
     exact ⟨cs', h1, h2⟩
   have hun2 : ∀ lo, x ≠ .tk lo := by
    rintro lo rfl
    simp [AV.cells, AV.one] at hone
   have hun3 : ∀ ks vs, x ≠ .mv ks vs := by
    rintro ks vs rfl
    simp [AV.cells, AV.one] at hone
   obtain ⟨hsz, hcells⟩ := hx.cells hun hun2 hun3
   have ho := allOne (F := F) (L := L) hone (by rw [Array.length_toList]; exact hsz) hcells
   have hrun := storeVar_run (P := P) (ty := t) hw hn (hsz.trans hxl) ho (Nat.le_trans hle hal)
   have hBlt : B < w.heap.size := hS.ltL (mem_of_get hB)
   have hgo : Goes (fun _ => False) F L w F L (w.setRow B (arr.take off ++ u.cells.toList ++ arr.drop (off + n)).toArray) := by
    refine ⟨by simp, fun b hb _ hbL => ⟨?_, fun i => rfl⟩, fun _ _ _ h => h, fun _ _ h => h, fun _ h => .inl h, ⟨rfl, rfl, rfl⟩, fun _ => Nat.le_refl _⟩
    exact setRow_other w B b _ (fun e => hbL (e ▸ mem_of_get hB))
   refine ⟨_, by simp [Instr.storeAt, Instr.sureAddr]; simpa using hrun, ⟨fun b i v hv => ?_, by simp [hS.len], fun j' cs' B' hj' hne' hmv' hB' => ?_, fun b hb => by simpa using hS.lt b hb, fun j' cs' B' hj' hne' hB' i hi => ?_, hS.nox, fun i1 j1 c1 c2 B1 hi1 hn1 hj1 hn2 hb1 hb2 => ?_, fun b hb => by simpa using hS.xlt b hb, fun b hb => hS.room0 b (by simpa using hb), fun j' ks' vs' B' hj' hB' => ?_, fun j' cs' B' hj' hpl' hB' => ?_⟩, hgo⟩
   ·obtain ⟨h1, h2⟩ := hS.mem _ _ _ hv
    refine ⟨?_, h2⟩
    rw [← h1]
    refine cell?_same (setRow_other w B b _ (fun e => ?_))
    subst e
    rw [hS.nof j cs b hcs hcne hB i (by rw [(plainRow_spec hpl).2]; exact Nat.zero_le _)] at hv
    cases hv
   ·by_cases hjj : j' = j
    ·subst hjj
     rw [hB] at hB'
     injection hB' with hB'
     subst hB'
     have hjl : j' < H.length := (xgI.1 hcs).1
     rw [List.getElem?_set_self hjl] at hj'
     injection hj' with hj'
     subst hj'
     have hul : u.cells.toList.length = n := by simp [hsz, hxl]
     refine ⟨_, ty, ⟨_, setRow_heap w B _ _ ty _ hw.choose_spec.1, by have h := hw.choose_spec.2; simp only [List.length_append, List.length_take, List.length_drop, hul]; rcases h with h | h; (· left; omega); (· right; exact h)⟩, by simp [hsz]; omega, by simp only [List.length_append, List.length_take, List.length_drop, hul]; omega, fun k c hk => ?_⟩
     have hol : (arr.take off).length = off := by simp; omega
     have hcl : (cs.take off).length = off := by simp; omega
     have hul : u.cells.toList.length = n := by simp [hsz, hxl]
     rw [xgD]
     by_cases hk1 : k < off
     ·rw [List.append_assoc, xgL (by rw [hcl]; exact hk1), List.getElem?_take, if_pos hk1] at hk
      rw [List.append_assoc, xgL (by rw [hol]; exact hk1), List.getElem?_take, if_pos hk1, ← xgD]
      exact har k c hk
     ·by_cases hk2 : k < off + n
      ·rw [List.append_assoc, xgR (by rw [hcl]; omega), hcl, xgL (by omega)] at hk
       rw [List.append_assoc, xgR (by rw [hol]; omega), hol, xgL (by omega), ← xgD]
       exact hcells _ c hk
      ·rw [xgR (by rw [List.length_append, hcl]; omega), List.length_append, hcl, hxl, List.getElem?_drop] at hk
       rw [xgR (by rw [List.length_append, hol, hul]; omega), List.length_append, hol, hul, List.getElem?_drop, ← xgD]
       exact har _ c hk
    ·rw [List.getElem?_set_ne (fun e => hjj e.symm)] at hj'
     obtain ⟨arr', ty', h1, h2, h3⟩ := hS.obj j' cs' B' hj' hne' hmv' hB'
     exact ⟨arr', ty', h1.same (setRow_other w B B' _ (fun e => hjj (hS.inj _ _ _ _ B hj' hne' hcs hcne (e ▸ hB') hB))), h2, h3⟩
   ·by_cases hjj : j' = j
    ·subst hjj
     exact hS.nof j' cs B' hcs hcne hB' i (by rw [(plainRow_spec hpl).2]; exact Nat.zero_le _)
    ·rw [List.getElem?_set_ne (fun e => hjj e.symm)] at hj'
     exact hS.nof j' cs' B' hj' hne' hB' i hi
   ·obtain ⟨d1, h1, h2⟩ := old i1 c1 hi1 hn1
    obtain ⟨d2, h3, h4⟩ := old j1 c2 hj1 hn2
    exact hS.inj i1 j1 d1 d2 B1 h1 h2 h3 h4 hb1 hb2
   ·by_cases hjj : j' = j
    ·exfalso
     subst hjj
     have hjl : j' < H.length := (xgI.1 hcs).1
     rw [List.getElem?_set_self hjl] at hj'
     injection hj' with hj'
     have h1 : (cs.take off ++ x.cells ++ cs.drop (off + n)).length = 1 := by rw [hj']; rfl
     simp only [List.length_append, List.length_take, List.length_drop] at h1
     have hx1 : x.cells = [.mv ks' vs'] := by
      have h2 : (cs.take off) = [] := List.eq_nil_of_length_eq_zero (by simp; omega)
      have h3 : (cs.drop (off + n)) = [] := List.eq_nil_of_length_eq_zero (by simp; omega)
      rw [h2, h3] at hj'; simpa using hj'
     rw [hx1] at hone
     simp [AV.one] at hone
    ·rw [List.getElem?_set_ne (fun e => hjj e.symm)] at hj'
     refine (hS.mob j' ks' vs' B' hj' hB').goes hgo ?_
     exact setRow_other w B B' _ (fun e => hjj (hS.inj _ _ _ _ B hj' (by simp) hcs hcne (e ▸ hB') hB))
   ·by_cases hjj : j' = j
    ·subst hjj
     have hjl : j' < H.length := (xgI.1 hcs).1
     rw [List.getElem?_set_self hjl] at hj'
     injection hj' with hj'
     subst hj'
     have := hS.rm j' cs B' hcs hpl hB'
     simp only [List.length_append, List.length_take, List.length_drop]
     omega
    ·rw [List.getElem?_set_ne (fun e => hjj e.symm)] at hj'
     exact hS.rm j' cs' B' hj' hpl' hB'
  ·cases h
 ·cases h
end
end Go.Lv
set_option linter.unusedVariables false
set_option linter.unusedSimpArgs false
namespace Go.Lv
section
variable {P : Program} {F : Facts} {L : List Nat} {w : World} {X : Nat → Prop} {H : Heap}
theorem add_at (B o k : Nat) : (⟨B, o, none⟩ : Addr).add k = ⟨B, o + k, none⟩ := Addr.add_mid B o k
theorem fieldAddrA_run {t : TypeId} {p r : AV} {v : Value} {f : Nat} (hp : Rel F L p v) (h : fieldAddrA P t p f = some r) : ∃ u, (Instr.fieldAt t v f).run P w = .ok u w ∧ Rel F L r u := by
 unfold fieldAddrA at h
 split at h
 ·rename_i fs hu
  obtain ⟨fd, hfd, h⟩ := xoB.1 h
  obtain ⟨n, hn, h⟩ := xoB.1 h
  split at h
  ·cases h
  ·rename_i hn0
   split at h
   ·cases hp
    rename_i B hB
    injection h with h; subst h
    exact ⟨_, by simp [Instr.fieldAt, run_underlying hu, hfd, Instr.sureAddr, fieldPlace, sizeT_run hn, hn0, add_at], .ptr _ _ _ hB⟩
   ·cases hp
    rename_i B a vals hf hr
    injection h with h; subst h
    exact ⟨_, by simp [Instr.fieldAt, run_underlying hu, hfd, Instr.sureAddr, fieldPlace, sizeT_run hn, hn0, add_at, Nat.add_assoc], .ea _ _ _ _ vals hf hr⟩
   ·cases h
 ·cases h
theorem fieldA_run {t : TypeId} {p r : AV} {v : Value} {f : Nat} (hp : Rel F L p v) (h : fieldA P t p f = some r) : ∃ u, (Instr.field t v f).run P w = .ok u w ∧ Rel F L r u := by
 unfold fieldA at h
 split at h
 ·rename_i fs cs hu
  obtain ⟨fd, hfd, h⟩ := xoB.1 h
  cases hp
  rename_i arr hl hr
  obtain ⟨u, h1, h2⟩ := part_run (P := P) (w := w) hl hr h
  exact ⟨u, by simp [Instr.field, run_underlying hu, hfd, asAgg, h1], h2⟩
 ·cases h
theorem idx_some {n k : Nat} {i : Int} (h : idx n i = some k) : 0 ≤ i ∧ i < n ∧ i.toNat = k ∧ k < n := by
 unfold idx at h
 split at h
 ·injection h with h; omega
 ·cases h
theorem indexAddrA_run {t : TypeId} {p i r : AV} {v j : Value} (hp : Rel F L p v) (hi : Rel F L i j) (h : indexAddrA P t p i = some r) : ∃ u, (Instr.indexAt t v j).run P w = .ok u w ∧ Rel F L r u := by
 unfold indexAddrA at h
 split at h
 ·rename_i e xs k i' hu
  obtain ⟨rfl, _⟩ := hi.v_eq
  obtain ⟨n, hn, h⟩ := xoB.1 h
  obtain ⟨a, ha, h⟩ := xoB.1 h
  obtain ⟨h1, h2, h3, h4⟩ := idx_some hn
  split at h
  ·rename_i hsz
   injection h with h; subst h
   cases hp with
   | sl0 => simp at h4
   | sl xs B o len cap sz vals hl h0 hc hs hnn hf hr =>
    have hlt : n < len := hl ▸ h4
    have hsa := hnn n a ha
    refine ⟨.pointer (some ⟨B, o + n * sz + 0, none⟩), ?_, .ea a 0 B (o + n * sz) (vals n) (fun k hk => hf n k hlt (hsa ▸ hk)) (fun k c hk => hr n a k c ha hk)⟩
    have hsr := sizeT_run (w := w) hsz
    rw [hsa] at hsr
    simp [Instr.indexAt, asIntOf, run_underlying hu, h1, show i' < (len : Int) by omega, hsr, add_at, h3]
  ·cases h
 ·rename_i e j' off len n' g k i' hu
  obtain ⟨rfl, _⟩ := hi.v_eq
  obtain ⟨n, hn, h⟩ := xoB.1 h
  obtain ⟨h1, h2, h3, h4⟩ := idx_some hn
  split at h
  ·rename_i hsz
   injection h with h; subst h
   cases hp with
   | mr _ _ _ _ cap B _ hB hc hn hr hx =>
    refine ⟨_, ?_, .ptr _ _ _ hB⟩
    simp [Instr.indexAt, asIntOf, run_underlying hu, h1, h2, sizeT_run hsz, add_at, h3]
  ·cases h
 ·rename_i ln e j' off k i' hu
  obtain ⟨rfl, _⟩ := hi.v_eq
  obtain ⟨n, hn, h⟩ := xoB.1 h
  obtain ⟨sz, hsz, rfl⟩ := xoM.1 h
  obtain ⟨h1, h2, h3, h4⟩ := idx_some hn
  cases hp
  rename_i B hB
  refine ⟨_, ?_, .ptr _ _ _ hB⟩
  simp [Instr.indexAt, asIntOf, run_underlying hu, Instr.sureAddr, h1, h2, sizeT_run hsz, add_at, h3]
 ·rename_i ln e a off k i' hu
  obtain ⟨rfl, _⟩ := hi.v_eq
  obtain ⟨n, hn, h⟩ := xoB.1 h
  obtain ⟨sz, hsz, rfl⟩ := xoM.1 h
  obtain ⟨h1, h2, h3, h4⟩ := idx_some hn
  cases hp
  rename_i B a' vals hf hr
  refine ⟨_, ?_, .ea _ _ _ _ vals hf hr⟩
  simp [Instr.indexAt, asIntOf, run_underlying hu, Instr.sureAddr, h1, h2, sizeT_run hsz, add_at, h3, Nat.add_assoc]
 ·cases h
theorem indexA_run {t : TypeId} {p i r : AV} {v j : Value} (hp : Rel F L p v) (hi : Rel F L i j) (h : indexA P t p i = some r) : ∃ u, (Instr.index t v j).run P w = .ok u w ∧ Rel F L r u := by
 unfold indexA at h
 split at h
 ·rename_i s k i' hu
  obtain ⟨rfl, _⟩ := hi.v_eq
  obtain ⟨rfl, _⟩ := hp.v_eq
  obtain ⟨n, hn, h⟩ := xoB.1 h
  obtain ⟨b, hb, rfl⟩ := xoM.1 h
  obtain ⟨h1, h2, h3, h4⟩ := idx_some hn
  refine ⟨.int .u8 b.toNat, ?_, .sc _ rfl⟩
  have hb' : s[n]? = some b := by
   rw [getElem?_pos s n h4]
   rw [getElem?_pos s.data n h4] at hb
   exact hb
  simp [Instr.index, asIntOf, run_underlying hu, h1, h3, hb']
 ·rename_i ln e cs k i' hu
  obtain ⟨rfl, _⟩ := hi.v_eq
  obtain ⟨n, hn, h⟩ := xoB.1 h
  obtain ⟨sz, hsz, h⟩ := xoB.1 h
  obtain ⟨h1, h2, h3, h4⟩ := idx_some hn
  cases hp
  rename_i arr hl hr
  obtain ⟨u, hu1, hu2⟩ := part_run (P := P) (w := w) hl hr h
  exact ⟨u, by simp [Instr.index, asIntOf, run_underlying hu, h1, h2, sizeT_run hsz, h3, hu1], hu2⟩
 ·cases h
def bnd (v : Option Value) (m : Nat) (code : BoundsCode) (d : Nat) : Sem Nat := match v with | some x => Instr.sliceBound x m code | none => pure d
theorem bound_run {n m d k : Nat} {lo : Option AV} {v : Option Value} {code : BoundsCode} (hlo : ∀ a, lo = some a → ∃ x, v = some x ∧ Rel F L a x) (hno : lo = none → v = none) (h : bound n lo d = some k) (hnm : n ≤ m) :
  (bnd v m code d).run P w = .ok k w ∧ (lo = none → k = d) ∧ (lo ≠ none → k ≤ n) := by
 unfold bound at h
 split at h
 ·injection h with h; subst h
  rw [hno rfl]
  exact ⟨by simp [bnd], fun _ => rfl, fun h => absurd rfl h⟩
 ·rename_i kk i
  obtain ⟨x, rfl, hr⟩ := hlo _ rfl
  obtain ⟨rfl, _⟩ := hr.v_eq
  split at h
  ·rename_i hi
   injection h with h; subst h
   have : i ≤ (m : Int) := by omega
   exact ⟨by simp [bnd, Instr.sliceBound, asIntOf, hi.1, this], fun h => (by cases h), fun _ => (by omega)⟩
  ·cases h
 ·cases h
theorem optRel {ρ : Operand → Value} {e : Env} (hT : ∀ x, Rel F L (ev e x) (ρ x)) (lo : Option Operand) : (∀ a, lo.map (ev e) = some a → ∃ x, lo.map ρ = some x ∧ Rel F L a x) ∧ (lo.map (ev e) = none → lo.map ρ = none) := by
 cases lo with
 | none => simp
 | some x => simp; exact hT x
theorem sliceA_run {ρ : Operand → Value} {e : Env} (hT : ∀ x, Rel F L (ev e x) (ρ x)) {t : TypeId} {p r : AV} {v : Value} {lo hi mx : Option Operand} (hp : Rel F L p v) (h : sliceA P t p (lo.map (ev e)) (hi.map (ev e)) (mx.map (ev e)) = some r) :
  ∃ u, (Instr.sliceAt t v (lo.map ρ) (hi.map ρ) (mx.map ρ)).run P w = .ok u w ∧ Rel F L r u := by
 unfold sliceA at h
 obtain ⟨lo1, lo2⟩ := optRel hT lo
 obtain ⟨hi1, hi2⟩ := optRel hT hi
 have hmx : mx.map (ev e) = none → mx.map ρ = none := (optRel hT mx).2
 generalize lo.map (ev e) = lo' at *
 generalize hi.map (ev e) = hi' at *
 generalize mx.map (ev e) = mx' at *
 generalize lo.map ρ = vlo at *
 generalize hi.map ρ = vhi at *
 generalize mx.map ρ = vmx at *
 split at h
 ·rename_i s hu
  obtain ⟨rfl, _⟩ := hp.v_eq
  obtain ⟨b, hb, h⟩ := xoB.1 h
  obtain ⟨a, ha, h⟩ := xoB.1 h
  injection h with h; subst h
  obtain ⟨r1, r2, r3⟩ := bound_run (P := P) (w := w) (code := .sliceAlen) hi1 hi2 hb (Nat.le_refl _)
  obtain ⟨q1, q2, q3⟩ := bound_run (P := P) (w := w) (code := .sliceB) lo1 lo2 ha (Nat.le_refl _)
  rw [hmx rfl]
  refine ⟨.string (s.extract a b), ?_, .sc _ rfl⟩
  have hb' : (Instr.sliceBounds false s.size s.size vlo vhi none).run P w = .ok (a, b, s.size) w := by
   unfold Instr.sliceBounds
   cases vhi <;> cases vlo <;> simp_all [bnd]
  simp [Instr.sliceAt, Instr.slice, run_underlying hu, hb']
 ·rename_i el xs hu
  obtain ⟨n, hn, h⟩ := xoB.1 h
  split at h
  ·rename_i hall
   obtain ⟨b, hb, h⟩ := xoB.1 h
   obtain ⟨a, ha, h⟩ := xoB.1 h
   injection h with h; subst h
   rw [hmx rfl]
   have main : ∀ (A : Option Addr) (len cap : Nat), v = .slice A len cap → xs.length = len → len ≤ cap →
     ∃ u, (Instr.sliceAt t v vlo vhi none).run P w = .ok u w ∧ u = .slice (if cap = a then A else A.map (·.add (a * n))) (b - a) (cap - a) ∧ a ≤ b ∧ b ≤ len := by
    rintro A len cap rfl hl hc
    obtain ⟨r1, r2, r3⟩ := bound_run (P := P) (w := w) (m := cap) (code := .sliceAcap) hi1 hi2 hb (by omega)
    obtain ⟨q1, q2, q3⟩ := bound_run (P := P) (w := w) (code := .sliceB) lo1 lo2 ha (Nat.le_refl _)
    have hb' : (Instr.sliceBounds true len cap vlo vhi none).run P w = .ok (a, b, cap) w := by
     unfold Instr.sliceBounds
     cases vhi <;> cases vlo <;> simp_all [bnd]
    refine ⟨_, by simp [Instr.sliceAt, Instr.slice, run_underlying hu, hb', sizeT_run hn], rfl, ?_, ?_⟩
    ·rcases Classical.em (lo' = none) with e | e
     ·have := q2 e; omega
     ·exact q3 e
    ·rcases Classical.em (hi' = none) with e | e
     ·have := r2 e; omega
     ·have := r3 e; omega
   cases hp with
   | sl0 A cap hA =>
    obtain ⟨u, h1, rfl, h2, h3⟩ := main A 0 cap rfl rfl (Nat.zero_le _)
    refine ⟨_, h1, ?_⟩
    have hb0 : b = 0 := by omega
    have ha0 : a = 0 := by omega
    subst hb0 ha0
    simp only [List.take_nil, List.drop_nil, Nat.sub_self]
    exact .sl0 _ _ (fun hn => by
     split at hn
     ·rw [hA hn]
     ·rw [hA (by simpa using hn)])
   | sl xs B o len cap sz vals hl h0 hc hs hnn hf hr =>
    obtain ⟨u, h1, rfl, h2, h3⟩ := main _ len cap rfl hl hc
    refine ⟨_, h1, ?_⟩
    have hszn : sz = n := by
     have h0' : 0 < xs.length := by omega
     have e1 := hnn 0 _ (xgE h0')
     have e2 := hall.2 _ (List.getElem_mem h0')
     omega
    subst hszn
    rcases Nat.eq_or_lt_of_le h2 with he | hlt
    ·subst he
     have : (xs.take a).drop a = [] := List.drop_of_length_le (by simp; omega)
     rw [this, Nat.sub_self]
     exact .sl0 _ _ (fun hn => by split at hn <;> simp at hn)
    ·rw [if_neg (by omega)]
     simp only [Option.map_some, add_at]
     have hget : ∀ (i : Nat) e, ((xs.take b).drop a)[i]? = some e → xs[a + i]? = some e := by
      intro i e hi
      rw [List.getElem?_drop, List.getElem?_take] at hi
      split at hi
      ·exact hi
      ·cases hi
     refine .sl _ B (o + a * sz) (b - a) (cap - a) sz (fun i k => vals (a + i) k) (by simp; omega) (by omega) (by omega) hs (fun i e hi => hnn _ e (hget i e hi)) (fun i k hi hk => ?_) (fun i e k c hi hk => hr _ e k c (hget i e hi) hk)
     have := hf (a + i) k (by omega) hk
     rwa [Nat.add_mul, ← Nat.add_assoc] at this
  ·cases h
 ·rename_i el x hu
  split at h
  rotate_left
  ·cases h
  rename_i hnil
  have hx := isNilV_spec hnil
  subst hx
  obtain ⟨n, hn, h⟩ := xoB.1 h
  obtain ⟨b, hb, h⟩ := xoB.1 h
  obtain ⟨a, ha, h⟩ := xoB.1 h
  injection h with h; subst h
  rw [hmx rfl]
  obtain ⟨hv, _⟩ := hp.v_eq
  obtain ⟨r1, r2, r3⟩ := bound_run (P := P) (w := w) (m := 0) (code := .sliceAcap) hi1 hi2 hb (by omega)
  obtain ⟨q1, q2, q3⟩ := bound_run (P := P) (w := w) (code := .sliceB) lo1 lo2 ha (Nat.le_refl _)
  have hb' : (Instr.sliceBounds true 0 0 vlo vhi none).run P w = .ok (a, b, 0) w := by
   unfold Instr.sliceBounds
   cases vhi <;> cases vlo <;> simp_all [bnd]
  have h3 : b ≤ 0 := by
   rcases Classical.em (hi' = none) with e | e
   ·have := r2 e; omega
   ·have := r3 e; omega
  have h2 : a ≤ b := by
   rcases Classical.em (lo' = none) with e | e
   ·have := q2 e; omega
   ·exact q3 e
  have ha0 : a = 0 := by omega
  have hb0 : b = 0 := by omega
  subst ha0 hb0
  refine ⟨.slice none 0 0, by simp [Instr.sliceAt, Instr.slice, ← hv, run_underlying hu, hb', sizeT_run hn], .sc _ rfl⟩
 ·rename_i el j off len n g hu
  split at h
  ·rename_i hn
   obtain ⟨b, hb, h⟩ := xoB.1 h
   obtain ⟨a, ha, h⟩ := xoB.1 h
   injection h with h
   rw [hmx rfl]
   cases hp with
   | mr _ _ _ _ cap B _ hB hc hn0 hr hx =>
    obtain ⟨r1, r2, r3⟩ := bound_run (P := P) (w := w) (m := cap) (code := .sliceAcap) hi1 hi2 hb (by omega)
    obtain ⟨q1, q2, q3⟩ := bound_run (P := P) (w := w) (code := .sliceB) lo1 lo2 ha (Nat.le_refl _)
    have hb' : (Instr.sliceBounds true len cap vlo vhi none).run P w = .ok (a, b, cap) w := by
     unfold Instr.sliceBounds
     cases vhi <;> cases vlo <;> simp_all [bnd]
    have h2 : a ≤ b := by
     rcases Classical.em (lo' = none) with e | e
     ·have := q2 e; omega
     ·exact q3 e
    have h3 : b ≤ len := by
     rcases Classical.em (hi' = none) with e | e
     ·have := r2 e; omega
     ·have := r3 e; omega
    refine ⟨.slice (if cap = a then some ⟨B, off, none⟩ else (some ⟨B, off, none⟩ : Option Addr).map (·.add (a * n))) (b - a) (cap - a), by simp [Instr.sliceAt, Instr.slice, run_underlying hu, hb', sizeT_run hn], ?_⟩
    rw [← h]
    have hroom : off + a * n + (cap - a) * n ≤ F.room B := by
     have : a * n + (cap - a) * n = cap * n := by rw [← Nat.add_mul]; congr 1; omega
     omega
    by_cases hab : a < b
    ·rw [if_pos (.inl hab), if_neg (by omega)]
     simp only [Option.map_some, add_at]
     exact .mr _ _ _ _ _ _ _ hB (by omega) hn0 hroom (by omega)
    ·have hbb : b - a = 0 := by omega
     by_cases ha0 : a = 0
     ·subst ha0
      rw [if_pos (.inr rfl), hbb]
      have he : (if cap = 0 then some (⟨B, off, none⟩ : Addr) else (some ⟨B, off, none⟩ : Option Addr).map (·.add (0 * n))) = some ⟨B, off + 0 * n, none⟩ := by
       split <;> simp [add_at]
      rw [he]
      exact .mr _ _ _ _ _ _ _ hB (by omega) hn0 hroom (by omega)
     ·rw [if_neg (by omega), hbb]
      exact .sl0 _ _ (fun hn => by split at hn <;> simp at hn)
  ·cases h
 ·cases h
end
end Go.Lv
set_option linter.unusedVariables false
set_option linter.unusedSimpArgs false
namespace Go.Lv
section
variable {P : Program} {F : Facts} {L : List Nat} {w : World} {X : Nat → Prop} {H : Heap}
theorem byteOfA_some {a : AV} {b : UInt8} (h : byteOfA a = some b) : ∃ n : Int, a = .v (.int .u8 n) ∧ b = UInt8.ofNat n.toNat := by
 unfold byteOfA at h
 split at h
 ·rename_i n; injection h with h; exact ⟨n, rfl, h.symm⟩
 ·cases h
theorem mapM_bytes : ∀ (xs : List AV) (l : List UInt8), xs.mapM byteOfA = some l → ∃ ns : List Int, xs = ns.map (fun n => AV.v (.int .u8 n)) ∧ l = ns.map (fun n => UInt8.ofNat n.toNat) := by
 intro xs
 induction xs with
 | nil => intro l h; simp at h; subst h; exact ⟨[], rfl, rfl⟩
 | cons x xs ih =>
  intro l h
  rw [List.mapM_cons] at h
  obtain ⟨b, hb, h⟩ := xoB.1 h
  obtain ⟨l', hl', h⟩ := xoB.1 h
  injection h with h; subst h
  obtain ⟨ns, rfl, rfl⟩ := ih _ hl'
  obtain ⟨n, rfl, rfl⟩ := byteOfA_some hb
  exact ⟨n :: ns, rfl, rfl⟩
theorem bytesOfA_some {xs : List AV} {s : ByteArray} (h : bytesOfA xs = some s) : ∃ ns : List Int, xs = ns.map (fun n => AV.v (.int .u8 n)) ∧ s = strOfNums ns := by
 unfold bytesOfA at h
 obtain ⟨l, hl, rfl⟩ := xoM.1 h
 obtain ⟨ns, h1, rfl⟩ := mapM_bytes xs l hl
 exact ⟨ns, h1, rfl⟩
theorem byteAt {vals : Value} {n : Int} (h : Rel F L (.v (.int .u8 n)) vals) : vals = .int .u8 n := by
 obtain ⟨h1, _⟩ := h.v_eq
 exact h1.symm
theorem conv_same_run (hS : St P F L X w H) {s d : TypeId} {a r : AV} {v : Value} (ha : Rel F L a v) (h : conv P s d a = some r) (hb : ∀ x, a ≠ .v (.string x) ∨ ∀ e, P.underlying d ≠ some (.slice e)) :
  ∃ u, (convert s d v).run P w = .ok u w ∧ Rel F L r u := by
 unfold conv at h
 split at h
 ·rename_i h1 h2
  obtain ⟨rfl, _⟩ := ha.v_eq
  injection h with h; subst h
  refine ⟨_, ?_, .sc _ rfl⟩
  unfold convert
  simp only [Sem.run_bind, run_underlying h1, run_underlying h2, Result.andThen_ok]
  simp [Conv.intToInt]
 ·rename_i h1 h2
  obtain ⟨rfl, _⟩ := ha.v_eq
  injection h with h; subst h
  refine ⟨_, ?_, .sc _ rfl⟩
  unfold convert
  simp only [Sem.run_bind, run_underlying h1, run_underlying h2, Result.andThen_ok]
  simp
 ·rename_i e xs h1 h2
  split at h
  ·rename_i he
   obtain ⟨str, hstr, rfl⟩ := xoM.1 h
   obtain ⟨ns, hns, rfl⟩ := bytesOfA_some hstr
   cases ha with
   | sl0 A cap hA =>
    have : ns = [] := by simpa using hns.symm
    subst this
    cases A with
    | none => exact ⟨_, run_convert_bytes_nil w s e h1 he 0 cap d h2, .sc _ rfl⟩
    | some A =>
     refine ⟨.string (strOfNums []), ?_, .sc _ rfl⟩
     rw [run_convert_bytes_string w s d e _ 0 cap h1 he h2]
     simp [Conv.bytesToString, loadCells, loadCellsFrom, strOfNums]
     rfl
   | sl xs B o len cap sz vals hl h0 hc hs hnn hf hr =>
    subst hns
    refine ⟨_, run_convert_bytes_arg w s e h1 he B o len cap ns (by simpa using hl) (fun i hi => ?_) d h2, .sc _ rfl⟩
    have hil : i < ns.length := by simp at hl; omega
    have hget : (ns.map (fun n => AV.v (.int .u8 n)))[i]? = some (.v (.int .u8 ns[i])) := by simp [hil]
    have hsz := hnn _ _ hget
    simp only [AV.cells, List.length_singleton] at hsz
    subst hsz
    have hv := byteAt (hr i _ 0 _ hget rfl)
    have := (hS.mem _ _ _ (hf i 0 hi (by omega))).1
    rw [hv] at this
    simpa [hil] using this
  ·cases h
 ·rename_i e x h1 h2
  rcases hb x with h' | h'
  ·exact absurd rfl h'
  ·exact absurd h2 (h' e)
 ·cases h
theorem fold_put (off : Nat) : ∀ (v : List Value) (k : Nat) (cs : Array Value), off + k + v.length ≤ cs.size →
  ((v.zipIdx k).foldl (fun (cs : Array Value) (c : Value × Nat) => cs.setIfInBounds (off + c.2) c.1) cs).toList = cs.toList.take (off + k) ++ v ++ cs.toList.drop (off + k + v.length) := by
 intro v
 induction v with
 | nil => intro k cs h; simp
 | cons c v ih =>
  intro k cs h
  simp only [List.length_cons] at h
  simp only [List.zipIdx_cons, List.foldl_cons]
  rw [ih (k + 1) _ (by simp; omega)]
  have hlt : off + k < cs.toList.length := by simp; omega
  simp only [Array.toList_setIfInBounds, List.length_cons]
  rw [List.drop_set_of_lt (by omega), show off + (k + 1) = off + k + 1 by omega, List.take_set, List.take_add_one, xgE hlt]
  simp only [Option.toList_some]
  rw [List.set_append_right _ _ (by simp; omega), show off + k - (cs.toList.take (off + k)).length = 0 by simp; omega]
  simp only [List.set_cons_zero, List.append_assoc, List.cons_append, List.nil_append]
  rw [show off + k + 1 + v.length = off + k + (v.length + 1) by omega]
def PartsRel (F : Facts) (L : List Nat) (ps : List (Nat × AV)) (qs : List (Nat × Value)) : Prop :=
 ps.length = qs.length ∧ ∀ (k : Nat) p q, ps[k]? = some p → qs[k]? = some q → p.1 = q.1 ∧ Rel F L p.2 q.2
theorem PartsRel.cons {F : Facts} {L : List Nat} {p : Nat × AV} {ps : List (Nat × AV)} {q : Nat × Value} {qs : List (Nat × Value)} (h : PartsRel F L (p :: ps) (q :: qs)) : p.1 = q.1 ∧ Rel F L p.2 q.2 ∧ PartsRel F L ps qs := by
 obtain ⟨h1, h2⟩ := h
 obtain ⟨a, b⟩ := h2 0 p q rfl rfl
 exact ⟨a, b, by simpa using h1, fun k p' q' hp hq => h2 (k + 1) p' q' hp hq⟩
theorem fillA_run {place : Nat → Option (Nat × Nat)} : ∀ (ps : List (Nat × AV)) (qs : List (Nat × Value)) (cs r : List AV) (arr : List Value), PartsRel F L ps qs → arr.length = cs.length → (∀ (k : Nat) c, cs[k]? = some c → Rel F L c (arr.getD k undef)) →
  fillA place cs ps = some r → ∃ arr' : List Value, Instr.fill place arr.toArray qs = some arr'.toArray ∧ arr'.length = r.length ∧ ∀ (k : Nat) c, r[k]? = some c → Rel F L c (arr'.getD k undef) := by
 intro ps
 induction ps with
 | nil =>
  intro qs cs r arr hp hl hr h
  cases qs with
  | nil => simp only [fillA] at h; injection h with h; subst h; exact ⟨arr, rfl, hl, hr⟩
  | cons q qs => exact absurd hp.1 (by simp)
 | cons p ps ih =>
  intro qs cs r arr hp hl hr h
  cases qs with
  | nil => exact absurd hp.1 (by simp)
  | cons q qs =>
   obtain ⟨i, a⟩ := p
   obtain ⟨j, v⟩ := q
   obtain ⟨h1, h2, h3⟩ := hp.cons
   simp only at h1 h2
   subst h1
   simp only [fillA] at h
   split at h
   ·cases h
   ·rename_i off size hpl
    split at h
    ·rename_i hc
     obtain ⟨hc1, hc2, hc3⟩ := hc
     have hun : a ≠ .un := by rintro rfl; simp [AV.cells, AV.one] at hc2
     obtain ⟨hv1, hv2⟩ := h2.cellsOne hc2
     have hvs : v.cells.size = size := hv1.trans hc1
     have hside : ∀ (k : Nat) c, (cs.take off ++ a.cells ++ cs.drop (off + size))[k]? = some c → Rel F L c ((arr.take off ++ v.cells.toList ++ arr.drop (off + size)).getD k undef) := by
      intro k c hk
      have hol : (arr.take off).length = off := by simp; omega
      have hcl : (cs.take off).length = off := by simp; omega
      have hul : v.cells.toList.length = size := by simp [hvs]
      rw [xgD]
      by_cases hk1 : k < off
      ·rw [List.append_assoc, xgL (by rw [hcl]; exact hk1), List.getElem?_take, if_pos hk1] at hk
       rw [List.append_assoc, xgL (by rw [hol]; exact hk1), List.getElem?_take, if_pos hk1, ← xgD]
       exact hr k c hk
      ·by_cases hk2 : k < off + size
       ·rw [List.append_assoc, xgR (by rw [hcl]; omega), hcl, xgL (by omega)] at hk
        rw [List.append_assoc, xgR (by rw [hol]; omega), hol, xgL (by omega), ← xgD]
        exact hv2 _ c hk
       ·rw [xgR (by rw [List.length_append, hcl]; omega), List.length_append, hcl, hc1, List.getElem?_drop] at hk
        rw [xgR (by rw [List.length_append, hol, hul]; omega), List.length_append, hol, hul, List.getElem?_drop, ← xgD]
        exact hr _ c hk
     obtain ⟨arr', e1, e2, e3⟩ := ih qs (cs.take off ++ a.cells ++ cs.drop (off + size)) r (arr.take off ++ v.cells.toList ++ arr.drop (off + size)) h3 (by simp [hl, hv1]) hside h
     refine ⟨arr', ?_, e2, e3⟩
     simp only [Instr.fill, hpl]
     rw [if_neg (by simp [hvs]; omega), ← e1]
     congr 1
     apply Array.ext'
     have hf := fold_put off v.cells.toList 0 arr.toArray (by simp [hvs]; omega)
     simp only [Nat.add_zero, Array.length_toList, hvs] at hf
     rw [← Array.foldl_toList, Array.toList_zipIdx]
     simpa using hf
    ·cases h
theorem zeroA_run {t : TypeId} {z : List AV} (h : zeroA P t = some z) : ∃ v arr, (zeroValue t).run P w = .ok v w ∧ v.cells = List.toArray arr ∧ arr.length = z.length ∧ (∀ (k : Nat) c, z[k]? = some c → Rel F L c (arr.getD k undef)) ∧
  (P.info? t).bind (·.zero) = some v := by
 unfold zeroA at h
 obtain ⟨v, hv, h⟩ := xoB.1 h
 split at h
 ·rename_i hone
  injection h with h; subst h
  obtain ⟨h1, h2⟩ := (litX_rel F L v).cellsOne hone
  refine ⟨v, v.cells.toList, ?_, by simp, by simpa using h1, h2, hv⟩
  obtain ⟨i, hi, hz⟩ := xoB.1 hv
  simp [zeroValue, typeInfo, hi, hz]
 ·cases h
end
end Go.Lv
