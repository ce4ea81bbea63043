import Derived.Test.YticlhjamafdmfaaLvM
import Derived.Laws.MakeOwn
set_option linter.unusedVariables false
set_option linter.unusedSimpArgs false
/-! Rows that may be written: what becomes of them. -/
namespace Go.Lv
section
variable {P : Program} {C : Cfg} {G : Nat → Prop} {F0 : Facts} {L0 : List Nat} {w0 : World} {N : Nat} {O O' : OSet} {A A' : List (Nat × Nat)} {e : Env} {H : Heap} {F : Facts} {L : List Nat} {a : Act} {w : World}

theorem set_live {H : Heap} {j j' : Nat} {cs : List AV} (h : (H.set j [])[j']? = some cs) (hne : cs ≠ []) : j' ≠ j ∧ H[j']? = some cs := by
  by_cases hjj : j' = j
  · subst hjj
    have hl : j' < H.length := by
      have := (List.getElem?_eq_some_iff.1 h).1
      simpa using this
    rw [List.getElem?_set_self hl] at h
    injection h with h
    exact absurd h.symm hne
  · rw [List.getElem?_set_ne (fun e => hjj e.symm)] at h
    exact ⟨hjj, h⟩

/-- From now on nothing writes there: what stands there is known for good. -/
theorem St.freeze (hS : St P F L NX w H) {j B : Nat} {cs : List AV} (hj : H[j]? = some cs) (hne : cs ≠ []) (hB : L[j]? = some B) (hone : cs.all AV.one = true) :
    ∃ (F' : Facts) (arr : List Value), arr.length = cs.length ∧ (∀ i, F' B i = arr[i]?) ∧ (∀ (k : Nat) c, cs[k]? = some c → Rel F' L c (arr.getD k undef)) ∧ St P F' L NX w (H.set j []) ∧ Goes (fun _ => False) F L w F' L w := by
  have hpl := plainRow_spec (plainRow_one hone)
  obtain ⟨arr0, t, h1, h2, h3, h4⟩ := hS.obj j cs B hj hne hpl.1 hB
  obtain ⟨arr, harr⟩ : ∃ arr, arr = arr0.take cs.length := ⟨_, rfl⟩
  have hal : arr.length = cs.length := by rw [harr]; simp; omega
  have hag : ∀ k, k < cs.length → arr.getD k undef = arr0.getD k undef := by
    intro k hk
    rw [harr, List.getD_eq_getElem?_getD, List.getElem?_take, if_pos hk, ← List.getD_eq_getElem?_getD]
  obtain ⟨F', hFr, hF⟩ : ∃ F' : Facts, F'.room = F.room ∧ ∀ b i, F' b i = if b = B then arr[i]? else F b i := ⟨⟨fun b i => if b = B then arr[i]? else F b i, F.room⟩, rfl, fun _ _ => rfl⟩
  have hmono : ∀ b i v, F b i = some v → F' b i = some v := by
    intro b i v h
    rw [hF]
    split
    · rename_i hb
      subst hb
      rw [hS.nof j cs b hj hne hB i (by rw [hpl.2]; exact Nat.zero_le _)] at h
      cases h
    · exact h
  have hgo : Goes (fun _ => False) F L w F' L w :=
    ⟨Nat.le_refl _, fun b _ _ hb => ⟨rfl, fun i => by rw [hF, if_neg (fun (e : b = B) => hb (e ▸ mem_of_get hB))]⟩, hmono, fun _ _ h => h, fun _ h => .inl h, ⟨rfl, rfl, rfl⟩, fun b => by rw [hFr]; exact Nat.le_refl _⟩
  have hother : ∀ (j' : Nat) cs' B', (H.set j [])[j']? = some cs' → cs' ≠ [] → L[j']? = some B' → H[j']? = some cs' ∧ B' ≠ B := by
    intro j' cs' B' hj' hne' hB'
    obtain ⟨k1, k2⟩ := set_live hj' hne'
    exact ⟨k2, fun e => k1 (hS.inj j' j cs' cs B k2 hne' hj hne (e ▸ hB') hB)⟩
  refine ⟨F', arr, hal, fun i => by rw [hF, if_pos rfl], fun k c hk => ?_, ⟨fun b i v h => ?_, by simp [hS.len], fun j' cs' B' hj' hne' hmv' hB' => ?_, hS.lt, fun j' cs' B' hj' hne' hB' i hi => ?_, hS.nox, fun i1 j1 c1 c2 B1 hi1 hn1 hj1 hn2 hb1 hb2 => ?_, hS.xlt, fun b hb => by rw [hFr]; exact hS.room0 b hb, fun j' ks vs B' hj' hB' => ?_⟩, hgo⟩
  · rw [hag k (List.getElem?_eq_some_iff.1 hk).1]
    exact (h4 k c hk).goes hgo
  · rw [hF] at h
    split at h
    · rename_i hb
      subst hb
      have hi : i < arr.length := (List.getElem?_eq_some_iff.1 h).1
      have hic : i < cs.length := hal ▸ hi
      have hv : v = arr0.getD i undef := by
        rw [← hag i hic, List.getD_eq_getElem?_getD, h]; rfl
      refine ⟨by rw [cell?_eq h1, getD_get (by omega), hv], ?_⟩
      rw [hv]
      exact (h4 i _ (List.getElem?_eq_getElem hic)).one (List.all_eq_true.1 hone _ (List.getElem_mem hic))
    · exact hS.mem _ _ _ h
  · obtain ⟨k1, k2⟩ := hother j' cs' B' hj' hne' hB'
    obtain ⟨arr', t', m1, m2, m3, m4⟩ := hS.obj j' cs' B' k1 hne' hmv' hB'
    exact ⟨arr', t', m1, m2, by rw [hFr]; exact m3, fun k c hk => (m4 k c hk).goes hgo⟩
  · obtain ⟨k1, k2⟩ := hother j' cs' B' hj' hne' hB'
    rw [hF, if_neg k2]
    exact hS.nof j' cs' B' k1 hne' hB' i hi
  · exact hS.inj i1 j1 c1 c2 B1 (set_live hi1 hn1).2 hn1 (set_live hj1 hn2).2 hn2 hb1 hb2
  · exact (hS.mob j' ks vs B' (set_live hj' (by simp)).2 hB').goes hgo rfl

/-- A row is taken over into a new one, at the same place in memory. -/
theorem St.redo (hS : St P F L NX w H) {j B : Nat} {cs cs' : List AV} (hj : H[j]? = some cs) (hne : cs ≠ []) (hpl : plainRow cs = true) (hmc : isMv cs' = false) (hB : L[j]? = some B) {w' : World} {arr' : List Value} {t : TypeId}
    (hsize : w'.heap.size = w.heap.size) (hold : ∀ b, b < w.heap.size → b ≠ B → w'.heap[b]? = w.heap[b]?) (hnew : w'.heap[B]? = some (.cells arr'.toArray t (0, 0))) (hrest : w'.os = w.os ∧ w'.tape = w.tape ∧ w'.output = w.output)
    (hl : cs'.length ≤ arr'.length) (hroom : F.room B ≤ arr'.length) (hr : ∀ (k : Nat) c, cs'[k]? = some c → Rel F L c (arr'.getD k undef)) :
    St P F (L ++ [B]) NX w' (H.set j [] ++ [cs']) ∧ Goes (fun _ => False) F L w F (L ++ [B]) w' := by
  have hBL := mem_of_get hB
  have hgo : Goes (fun _ => False) F L w F (L ++ [B]) w' := by
    refine ⟨by omega, fun b hb _ hbL => ⟨hold b hb (fun e => hbL (e ▸ hBL)), fun i => rfl⟩, fun _ _ _ h => h, fun i b h => ?_, fun b hb => ?_, hrest, fun _ => Nat.le_refl _⟩
    · rw [List.getElem?_append_left (List.getElem?_eq_some_iff.1 h).1]; exact h
    · rcases List.mem_append.1 hb with h | h
      · exact .inl h
      · simp at h; subst h; exact .inl hBL
  have old : ∀ (j' : Nat) ds B', (H.set j [] ++ [cs'])[j']? = some ds → ds ≠ [] → (L ++ [B])[j']? = some B' → (H[j']? = some ds ∧ L[j']? = some B' ∧ B' ≠ B) ∨ (j' = L.length ∧ ds = cs' ∧ B' = B) := by
    intro j' ds B' h1 h2 h3
    have hlen : (H.set j []).length = L.length := by simp [hS.len]
    rcases Nat.lt_or_ge j' L.length with hl | hl
    · rw [List.getElem?_append_left hl] at h3
      rw [List.getElem?_append_left (hlen ▸ hl)] at h1
      obtain ⟨k1, k2⟩ := set_live h1 h2
      exact .inl ⟨k2, h3, fun e => k1 (hS.inj j' j ds cs B k2 h2 hj hne (e ▸ h3) hB)⟩
    · rw [List.getElem?_append_right hl] at h3
      rw [List.getElem?_append_right (hlen ▸ hl), hlen] at h1
      have h0 : j' - L.length = 0 := by
        have := (List.getElem?_eq_some_iff.1 h3).1
        simp at this
        omega
      rw [h0] at h1 h3
      simp at h1 h3
      exact .inr ⟨by omega, h1.symm, h3.symm⟩
  refine ⟨⟨fun b i v h => ?_, by simp [hS.len], fun j' ds B' h1 h2 hmv h3 => ?_, fun b hb => ?_, fun j' ds B' h1 h2 h3 i hi => ?_, fun b hb => by simp [NX], fun i1 j1 c1 c2 B1 hi1 hn1 hj1 hn2 hb1 hb2 => ?_, fun b hb => (by simp [NX] at hb), fun b hb => hS.room0 b (by omega), fun j' ks vs B' h1 h3 => ?_⟩, hgo⟩
  · obtain ⟨m1, m2⟩ := hS.mem _ _ _ h
    refine ⟨?_, m2⟩
    by_cases hb : b = B
    · subst hb
      rw [hS.nof j cs b hj hne hB i (by rw [(plainRow_spec hpl).2]; exact Nat.zero_le _)] at h
      cases h
    · rw [cell?_same (hold b (hS.ltF h) hb)]; exact m1
  · rcases old j' ds B' h1 h2 h3 with ⟨k1, k2, k3⟩ | ⟨k1, rfl, rfl⟩
    · obtain ⟨arr, t', m1, m2, m3, m4⟩ := hS.obj j' ds B' k1 h2 hmv k2
      exact ⟨arr, t', by rw [hold B' (hS.ltL (mem_of_get k2)) k3]; exact m1, m2, m3, fun k c hk => (m4 k c hk).goes hgo⟩
    · exact ⟨arr', t, hnew, hl, hroom, fun k c hk => (hr k c hk).goes hgo⟩
  · rw [hsize]
    rcases List.mem_append.1 hb with h | h
    · exact hS.lt b h
    · simp at h; subst h; exact hS.lt _ hBL
  · rcases old j' ds B' h1 h2 h3 with ⟨k1, k2, k3⟩ | ⟨k1, rfl, rfl⟩
    · exact hS.nof j' ds B' k1 h2 k2 i hi
    · exact hS.nof j cs B' hj hne hB i (by rw [(plainRow_spec hpl).2]; exact Nat.zero_le _)
  · rcases old i1 c1 B1 hi1 hn1 hb1 with ⟨k1, k2, k3⟩ | ⟨k1, k2, k3⟩ <;> rcases old j1 c2 B1 hj1 hn2 hb2 with ⟨m1, m2, m3⟩ | ⟨m1, m2, m3⟩
    · exact hS.inj i1 j1 c1 c2 B1 k1 hn1 m1 hn2 k2 m2
    · exact absurd m3 k3
    · exact absurd k3 m3
    · omega
  · rcases old j' _ B' h1 (by simp) h3 with ⟨k1, k2, k3⟩ | ⟨k1, k2, k3⟩
    · exact (hS.mob j' ks vs B' k1 k2).goes hgo (hold B' (hS.ltL (mem_of_get k2)) k3)
    · rw [← k2] at hmc; cases hmc

theorem setCells_size (B : Nat) : ∀ (vs : List Value) (o : Nat) (w : World), (w.setCells B o vs).heap.size = w.heap.size := by
  intro vs
  induction vs with
  | nil => intro o w; rfl
  | cons v vs ih => intro o w; rw [World.setCells, ih]; simp [World.setCell]
theorem setCells_tape (B : Nat) : ∀ (vs : List Value) (o : Nat) (w : World), (w.setCells B o vs).tape = w.tape := by
  intro vs
  induction vs with
  | nil => intro o w; rfl
  | cons v vs ih => intro o w; rw [World.setCells, ih]; simp [World.setCell]

theorem row_flat {n : Nat} {ys : List AV} {vs : List Value} (hr : Row F L n ys vs) (hn0 : 0 < n) : ∀ (k : Nat) c, (ys.flatMap AV.cells)[k]? = some c → Rel F L c (vs.getD k undef) := by
  have key : ∀ (ys : List AV) (vs : List Value), Row F L n ys vs → ∀ (k : Nat) c, (ys.flatMap AV.cells)[k]? = some c → ∃ i e m, ys[i]? = some e ∧ e.cells[m]? = some c ∧ m < n ∧ k = i * n + m := by
    intro ys
    induction ys with
    | nil => intro vs h k c hk; simp at hk
    | cons y ys ih =>
      intro vs h k c hk
      have hy := h.each 0 y rfl
      rw [List.flatMap_cons] at hk
      rcases Nat.lt_or_ge k n with hl | hl
      · rw [List.getElem?_append_left (by omega)] at hk
        exact ⟨0, y, k, rfl, hk, hl, by omega⟩
      · rw [List.getElem?_append_right (by omega), hy] at hk
        have h' : Row F L n ys (vs.drop n) := by
          refine ⟨by rw [List.length_drop, h.len, List.length_cons, Nat.add_mul]; omega, fun i e hi => h.each (i + 1) e hi, fun i e k c hi hk => ?_⟩
          have := h.rel (i + 1) e k c hi hk
          rw [List.getD_eq_getElem?_getD] at this ⊢
          rw [List.getElem?_drop]
          rwa [show n + (i * n + k) = (i + 1) * n + k by rw [Nat.add_mul]; omega]
        obtain ⟨i, e, m, h1, h2, h3, h4⟩ := ih _ h' _ c hk
        exact ⟨i + 1, e, m, h1, h2, h3, by rw [Nat.add_mul]; omega⟩
  intro k c hk
  obtain ⟨i, e, m, h1, h2, h3, rfl⟩ := key ys vs hr k c hk
  exact hr.rel i e m c h1 h2

theorem flat_length {n : Nat} : ∀ (ys : List AV), (∀ a ∈ ys, a.cells.length = n) → (ys.flatMap AV.cells).length = ys.length * n := by
  intro ys
  induction ys with
  | nil => intro _; simp
  | cons y ys ih => intro h; rw [List.flatMap_cons, List.length_append, h y (by simp), ih (fun a ha => h a (by simp [ha])), List.length_cons, Nat.add_mul]; omega

theorem nil_val {v : Value} (h : Rel F L nilA v) : v = .slice none 0 0 := by
  unfold nilA at h
  obtain ⟨hv, _⟩ := h.v_eq
  exact hv.symm

theorem appendM1_run (hS : St P F L NX w H) {t tx ty : TypeId} {xa xb : AV} {v y : Value} {r : AV} {H' : Heap} (hx : Rel F L xa v) (hy : Rel F L xb y) (h : appendM1 P H t tx xa (viewR P H tx xb) = some (r, H')) :
    ∃ u w' F' L', (Builtin.append_ #[t, tx] ty #[v, y]).run P w = .ok u w' ∧ Rel F' L' r u ∧ St P F' L' NX w' H' ∧ Goes (fun _ => False) F L w F' L' w' := by
  generalize hv : viewR P H tx xb = xc at h
  unfold appendM1 at h
  split at h
  · rename_i el el' ys ht htx
    split at h
    · rename_i n by_ z g hn hby hz hag
      split at h
      · rename_i hc
        obtain ⟨hn0, hzl, hys, hpos⟩ := hc
        have hyn : ∀ a ∈ ys, a.cells.length = n := fun a ha => (hys a ha).1
        obtain ⟨news, hsrc, hrow⟩ := view_src hS htx hy hn0 hv hyn
        obtain ⟨ie, hie, hien⟩ : ∃ ie, P.info? el = some ie ∧ ie.size = n := by
          unfold sizeT at hn
          obtain ⟨ie, h1, h2⟩ := Option.map_eq_some_iff.1 hn
          exact ⟨ie, h1, h2⟩
        have hieb : ie.bytes = by_ := by unfold bytesT at hby; simpa [hie] using hby
        obtain ⟨zv, zarr, z1, z2, z3, z4, z5⟩ := zeroA_run (P := P) (F := F) (L := L) (w := w) hz
        have hzz : ie.zero = some zv := by simpa [hie] using z5
        have hnl : news.length = ys.length * n := hsrc.newsLen
        have hflat := flat_length (n := n) ys hyn
        have hrf := row_flat hrow hn0
        have hfone : (ys.flatMap AV.cells).all AV.one = true := by
          rw [List.all_eq_true]
          intro c hc
          obtain ⟨a, ha, hca⟩ := List.mem_flatMap.1 hc
          exact List.all_eq_true.1 (hys a ha).2 c hca
        have hfne : ys.flatMap AV.cells ≠ [] := by
          intro he
          have := congrArg List.length he
          rw [hflat] at this
          have h2 : 0 < ys.length * n := Nat.mul_pos hpos hn0
          simp at this
          omega
        -- a new row
        have grow : ∀ (base : Option Addr) (len cap : Nat) (olds : List Value) (cs0 : List AV) (H0 : Heap), v = .slice base len cap → olds.length = len * n → cs0.length = len * n → (∀ (k : Nat) c, cs0[k]? = some c → Rel F L c (olds.getD k undef)) →
            (∀ w', (Builtin.firstCells n len (.slice base len cap)).run P w' = .ok olds.toArray w' ∨ w' ≠ w.drew) → cap < len + ys.length → (len + ys.length) * (by_ + 1) ≤ 140737488355328 → St P F L NX w H0 →
            ∃ u w' F' L', (Builtin.append_ #[t, tx] ty #[v, y]).run P w = .ok u w' ∧ Rel F' L' (.mr H0.length 0 (len + ys.length) n g) u ∧ St P F' L' NX w' (H0 ++ [cs0 ++ ys.flatMap AV.cells]) ∧ Goes (fun _ => False) F L w F' L' w' := by
          intro base len cap olds cs0 H0 hv' hol hcl hor hfirst hcap hle hS0
          subst hv'
          have hml : len + ys.length ≤ 140737488355328 := Nat.le_trans (Nat.le_mul_of_pos_right _ (by omega)) hle
          have hbytes : (len + ys.length) * ie.bytes ≤ 140737488355328 := by
            rw [hieb]
            rw [Nat.mul_add, Nat.mul_one] at hle
            omega
          have hold : (Builtin.firstCells ie.size len (.slice base len cap)).run P w.drew = .ok olds.toArray w.drew := by
            rw [hien]
            rcases hfirst w.drew with h | h
            · exact h
            · exact absurd rfl h
          have hr0 := run_append_grow_src w t tx ty el ie zv ht hie hzz base len cap olds hold y ys.length news (by rw [hien]; exact hsrc) (by omega) (by omega) (growslice_fits (by omega) hbytes)
          obtain ⟨c', hc'⟩ : ∃ c', c' = grownCap w (len + ys.length) cap el := ⟨_, rfl⟩
          have hge : len + ys.length ≤ c' := hc' ▸ grownCap_ge w _ _ _
          rw [← hc'] at hr0
          obtain ⟨arr, harr⟩ : ∃ arr : List Value, arr = (olds ++ news) ++ (Builtin.zeroCells zv.cells (c' - (len + ys.length))).toList := ⟨_, rfl⟩
          have harr' : (olds ++ news).toArray ++ Builtin.zeroCells zv.cells (c' - (len + ys.length)) = arr.toArray := by
            rw [harr]
            apply Array.ext'
            simp
          rw [harr'] at hr0
          have hg : Grew w (w.drew.alloc (.cells arr.toArray el)) arr el (0, 0) :=
            ⟨by simp, fun B hB => Go.heap_alloc_old w.drew _ B hB, Go.heap_alloc_new w.drew _, rfl, rfl, rfl⟩
          have hzc : (Builtin.zeroCells zv.cells (c' - (len + ys.length))).toList.length = (c' - (len + ys.length)) * n := by
            rw [Array.length_toList, size_zeroCells, z2]
            simp [z3, hzl]
          have hal : arr.length = c' * n := by
            rw [harr, List.length_append, List.length_append, hol, hnl, hzc, ← Nat.add_mul, ← Nat.add_mul]
            congr 1; omega
          have hcc : (cs0 ++ ys.flatMap AV.cells).length = (len + ys.length) * n := by rw [List.length_append, hcl, hflat, Nat.add_mul]
          obtain ⟨F', f1, f2, hS', hgo⟩ := hS0.varR hg (cs0 ++ ys.flatMap AV.cells) (c' * n) (by omega) (isMv_append hfne hfone) (by rw [hcc, hal]; exact Nat.mul_le_mul_right n hge) (fun k c hk => by
            rw [harr, List.getD_eq_getElem?_getD]
            rcases Nat.lt_or_ge k (len * n) with hl | hl
            · rw [List.getElem?_append_left (by omega)] at hk
              rw [List.append_assoc, List.getElem?_append_left (by omega), ← List.getD_eq_getElem?_getD]
              exact hor k c hk
            · rw [List.getElem?_append_right (by omega), hcl] at hk
              have hkl := (List.getElem?_eq_some_iff.1 hk).1
              rw [List.append_assoc, List.getElem?_append_right (by omega), List.getElem?_append_left (by rw [hnl, ← hflat, hol]; exact hkl), hol, ← List.getD_eq_getElem?_getD]
              exact hrf _ c hk)
          refine ⟨_, _, F', L ++ [w.heap.size], hr0, ?_, hS', hgo⟩
          refine .mr _ 0 _ n c' w.heap.size g ?_ hge hn0 ?_ (by rw [hc']; exact grownCap_le_maxLen w _ _ _ (by unfold maxLen; omega))
          · rw [List.getElem?_append_right (by rw [hS0.len]; exact Nat.le_refl _), hS0.len, Nat.sub_self]; rfl
          · rw [f2, if_pos rfl]; omega
        split at h
        · -- behind nothing
          split at h
          · rename_i hle
            obtain ⟨hnv, hle⟩ := hle
            have hnx := isNilV_spec hnv
            subst hnx
            injection h with h; injection h with h1 h2; subst h1 h2
            have hvn : v = .slice none 0 0 := nil_val hx
            have := grow none 0 0 [] [] H hvn (by simp) (by simp) (by simp) (fun w' => .inl (run_firstCells_none w' n 0 0 0)) (by omega) (by simpa using hle) hS
            simpa using this
          · cases h
        · rename_i j len n' g'
          obtain ⟨cs, hj, h⟩ := Option.bind_eq_some_iff.1 h
          split at h
          · rename_i hc
            obtain ⟨rfl, rfl, hle, hlc, hne, hpl, hone⟩ := hc
            injection h with h; injection h with h1 h2; subst h1 h2
            cases hx with
            | mr _ _ _ _ cap B _ hB hcap hn' hroom hx =>
              obtain ⟨arr, ta, m1, m2, m3, m4⟩ := hS.obj j cs B hj hne (plainRow_spec hpl).1 hB
              have hlen' : (H.set j []).length = H.length := by simp
              have htk : (cs.take (len * n')).length = len * n' := by simp; omega
              by_cases hrm : len + ys.length ≤ cap
              · -- there is room
                have hcn : (len + ys.length) * n' ≤ cap * n' := Nat.mul_le_mul_right n' hrm
                have hfit : len * n' + news.length ≤ arr.length := by
                  rw [hnl, ← Nat.add_mul]; omega
                have hcell : ∀ i, i < news.length → (w.cell? ⟨B, 0 + len * n' + i, none⟩).isSome = true := by
                  intro i hi
                  rw [cell?_eq m1, List.getElem?_eq_getElem (by omega)]; rfl
                have hr0 := run_append_room_src w t tx ty el ie ht hie B 0 len cap y ys.length news (by rw [hien]; exact hsrc) hrm
                  (fun i hi => by rw [hien]; exact hcell i hi) (fun i hi => by rw [hien]; unfold World.frozen?; rw [m1]; simp)
                rw [hien, Nat.zero_add] at hr0
                obtain ⟨arr', k1, k2, k3⟩ := setCells_row B news (len * n') w arr ta m1 hfit
                obtain ⟨hS', hgo⟩ := hS.redo (cs' := cs.take (len * n') ++ ys.flatMap AV.cells) hj hne hpl (isMv_append hfne hfone) hB (setCells_size B news _ w) (fun b hb hne => World.heap_setCells_other w B _ news hb hne) k1
                  ⟨World.os_setCells w B _ news, setCells_tape B news _ w, World.output_setCells w B _ news⟩
                  (by rw [k2, List.length_append, htk, hflat]; omega) (by omega) (fun k c hk => by
                    rw [List.getD_eq_getElem?_getD, k3]
                    rcases Nat.lt_or_ge k (len * n') with hl | hl
                    · rw [List.getElem?_append_left (by omega), List.getElem?_take, if_pos hl] at hk
                      rw [if_neg (by omega), ← List.getD_eq_getElem?_getD]
                      exact m4 k c hk
                    · rw [List.getElem?_append_right (by omega), htk] at hk
                      have hkl := (List.getElem?_eq_some_iff.1 hk).1
                      rw [if_pos (by omega), ← List.getD_eq_getElem?_getD]
                      exact hrf _ c hk)
                refine ⟨_, _, F, L ++ [B], hr0, ?_, hS', hgo⟩
                refine .mr _ 0 _ n' cap B g' ?_ hrm hn0 hroom hx
                rw [List.getElem?_append_right (by rw [hS.len]; exact Nat.le_refl _), hS.len, Nat.sub_self]; rfl
              · -- there is none
                obtain ⟨olds, hol⟩ : ∃ olds, olds = arr.take (len * n') := ⟨_, rfl⟩
                have holl : olds.length = len * n' := by rw [hol]; simp; omega
                obtain ⟨F1, _, _, _, _, hS1, hgo1⟩ : ∃ (F1 : Facts) (arr1 : List Value), True ∧ True ∧ True ∧ St P F L NX w (H.set j []) ∧ True := ⟨F, [], trivial, trivial, trivial, ⟨hS.mem, by simp [hS.len], fun j' cs' B' hj' hne' hmv' hB' => hS.obj j' cs' B' (set_live hj' hne').2 hne' hmv' hB', hS.lt, fun j' cs' B' hj' hne' hB' => hS.nof j' cs' B' (set_live hj' hne').2 hne' hB', hS.nox,
                  fun i1 j1 c1 c2 B1 hi1 hn1 hj1 hn2 hb1 hb2 => hS.inj i1 j1 c1 c2 B1 (set_live hi1 hn1).2 hn1 (set_live hj1 hn2).2 hn2 hb1 hb2, hS.xlt, hS.room0, fun j' ks vs B' hj' hB' => hS.mob j' ks vs B' (set_live hj' (by simp)).2 hB'⟩, trivial⟩
                have := grow (some ⟨B, 0, none⟩) len cap olds (cs.take (len * n')) (H.set j []) rfl holl htk (fun k c hk => by
                    have hkl : k < len * n' := htk ▸ (List.getElem?_eq_some_iff.1 hk).1
                    rw [List.getElem?_take, if_pos hkl] at hk
                    rw [hol, List.getD_eq_getElem?_getD, List.getElem?_take, if_pos hkl, ← List.getD_eq_getElem?_getD]
                    exact m4 k c hk)
                  (fun w' => by
                    by_cases hw : w' = w.drew
                    · refine .inl ?_
                      subst hw
                      exact run_firstCells_some w.drew n' len ⟨B, 0, none⟩ len cap olds holl (fun i u hu => by
                        have hil : i < len * n' := holl ▸ (List.getElem?_eq_some_iff.1 hu).1
                        rw [add_at, Nat.zero_add]
                        show w.cell? ⟨B, i, none⟩ = some u
                        rw [cell?_eq m1, ← hu, hol, List.getElem?_take, if_pos hil])
                    · exact .inr hw) (by omega) hle hS1
                rw [hlen'] at this
                exact this
          · cases h
        · cases h
      · cases h
    · cases h
  · cases h

theorem appendM_run (hS : St P F L NX w H) {t tx ty : TypeId} {xa xb : AV} {v y : Value} {r : AV} {H' : Heap} (hx : Rel F L xa v) (hy : Rel F L xb y) (h : appendM P H t tx xa (viewR P H tx xb) = some (r, H')) :
    ∃ u w' F' L', (Builtin.append_ #[t, tx] ty #[v, y]).run P w = .ok u w' ∧ Rel F' L' r u ∧ St P F' L' NX w' H' ∧ Goes (fun _ => False) F L w F' L' w' := by
  by_cases he : viewR P H tx xb = .sl []
  · rw [he] at h
    change appendM0 P H t tx xa = some (r, H') at h
    unfold appendM0 at h
    split at h
    · rename_i el el' j off len n g ht htx
      split at h
      · rename_i hc
        obtain ⟨hn, hn0⟩ := hc
        injection h with h; injection h with h1 h2; subst h1 h2
        obtain ⟨news, hsrc, hrow⟩ := view_src hS htx hy hn0 he (by simp)
        have hnw : news = [] := List.eq_nil_of_length_eq_zero (by simpa using hrow.len)
        subst hnw
        obtain ⟨ie, hie, hien⟩ : ∃ ie, P.info? el = some ie ∧ ie.size = n := by
          unfold sizeT at hn
          obtain ⟨ie, h1, h2⟩ := Option.map_eq_some_iff.1 hn
          exact ⟨ie, h1, h2⟩
        have hx0 := hx
        cases hx with
        | mr _ _ _ _ cap B _ hB hcap hn0' hroom hxx =>
          have hr0 := run_append_nothing w t tx ty el ie ht hie (some ⟨B, off, none⟩) len cap hcap y (by rw [hien]; exact hsrc)
          exact ⟨_, w, F, L, hr0, hx0, hS, Goes.refl _ F L w⟩
      · cases h
    · cases h
  · refine appendM1_run hS hx hy ?_
    rw [← h]
    unfold appendM
    split
    · rename_i h0; exact absurd h0 he
    · rfl

theorem zeroA_one {t : TypeId} {z : List AV} (h : zeroA P t = some z) : z.all AV.one = true := by
  unfold zeroA at h
  obtain ⟨v, hv, h⟩ := Option.bind_eq_some_iff.1 h
  split at h
  · rename_i hone
    injection h with h; subst h
    exact hone
  · cases h

theorem makeA_run (hS : St P F L NX w H) {t : TypeId} {xl xc : AV} {vl vc : Value} {r : AV} {H' : Heap} (hl : Rel F L xl vl) (hc : Rel F L xc vc) (h : makeA P H t xl xc = some (r, H')) :
    ∃ u w' F' L', (Instr.makeSlice t vl vc).run P w = .ok u w' ∧ Rel F' L' r u ∧ St P F' L' NX w' H' ∧ Goes (fun _ => False) F L w F' L' w' := by
  unfold makeA at h
  split at h
  case h_2 => cases h
  rename_i e l c he
  obtain ⟨hvl, _⟩ := hl.v_eq
  obtain ⟨hvc, _⟩ := hc.v_eq
  subst hvl hvc
  split at h
  case h_2 => cases h
  rename_i n by_ z g hn hby hz hag
  split at h
  case isFalse => cases h
  rename_i hcond
  obtain ⟨h0, hlc, hc0, hle, hn0, hzl⟩ := hcond
  injection h with h; injection h with h1 h2; subst h1 h2
  have ht : P.underlying t = some (.slice e) := by
    unfold elemOfT at he
    split at he
    · injection he with he; subst he; assumption
    · cases he
  obtain ⟨ie, hie, hien⟩ : ∃ ie, P.info? e = some ie ∧ ie.size = n := by
    unfold sizeT at hn
    obtain ⟨ie, h1, h2⟩ := Option.map_eq_some_iff.1 hn
    exact ⟨ie, h1, h2⟩
  have hieb : ie.bytes = by_ := by unfold bytesT at hby; simpa [hie] using hby
  obtain ⟨zv, zarr, z1, z2, z3, z4, z5⟩ := zeroA_run (P := P) (F := F) (L := L) (w := w) hz
  have hzz : ie.zero = some zv := by simpa [hie] using z5
  obtain ⟨m, hm⟩ : ∃ m : Nat, c = m := ⟨c.toNat, by omega⟩
  subst hm
  rw [Int.toNat_natCast] at hle
  have hb2 : ie.bytes * m ≤ 140737488355328 := by
    rw [hieb]
    have : m * by_ ≤ m * (by_ + 1) := Nat.mul_le_mul_left _ (by omega)
    rw [Nat.mul_comm]; omega
  have hm2 : m ≤ 140737488355328 := Nat.le_trans (Nat.le_mul_of_pos_right _ (by omega)) hle
  have hrun := Go.run_make w t e ie zv ht hie hzz .i64 .i64 l m h0 hlc (by
    have : (ie.bytes : Int) * (m : Int) = ((ie.bytes * m : Nat) : Int) := by push_cast; rfl
    omega) (by omega)
  rw [Int.toNat_natCast, hien] at hrun
  obtain ⟨arr, harr⟩ : ∃ arr : List Value, arr = (Go.madeCells zv.cells (m * n)).toList := ⟨_, rfl⟩
  have harr' : Go.madeCells zv.cells (m * n) = arr.toArray := by rw [harr]
  have hal : arr.length = m * n := by rw [harr, Array.length_toList, Go.size_madeCells]
  rw [harr'] at hrun
  have hg : Grew w (w.alloc (.cells arr.toArray e)) arr e (0, 0) := Grew.alloc w arr e
  have hrowone : ((List.range (m * n)).map fun k => z.getD (k % n) .un).all AV.one = true := by
    rw [List.all_eq_true]
    intro c hc
    obtain ⟨k, hk, rfl⟩ := List.mem_map.1 hc
    have hkn : k % n < z.length := by rw [hzl]; exact Nat.mod_lt _ hn0
    rw [List.getD_eq_getElem?_getD, List.getElem?_eq_getElem hkn]
    exact List.all_eq_true.1 (zeroA_one hz) _ (List.getElem_mem hkn)
  obtain ⟨F', f1, f2, hS', hgo⟩ := hS.varR hg ((List.range (m * n)).map fun k => z.getD (k % n) .un) (m * n) (by omega) (plainRow_spec (plainRow_one hrowone)).1 (by simp; omega) (fun k c hk => by
    rw [List.getElem?_map] at hk
    obtain ⟨k', hk', rfl⟩ := Option.map_eq_some_iff.1 hk
    have hkl := (List.getElem?_eq_some_iff.1 hk').1
    simp at hkl
    have hkk : k' = k := by
      rw [List.getElem?_range hkl] at hk'
      injection hk' with hk'; exact hk'.symm
    subst hkk
    have hkn : k' % n < z.length := by rw [hzl]; exact Nat.mod_lt _ hn0
    have h4 := z4 (k' % n) _ (List.getElem?_eq_getElem hkn)
    rw [List.getD_eq_getElem?_getD, List.getElem?_eq_getElem hkn]
    have hzs : zv.cells.size = n := by rw [z2]; simp [z3, hzl]
    have ha : arr.getD k' undef = zarr.getD (k' % n) undef := by
      have hzk : k' % n < zarr.length := by rw [z3, hzl]; exact Nat.mod_lt _ hn0
      rw [harr]
      unfold Go.madeCells
      rw [List.getD_eq_getElem?_getD, List.getD_eq_getElem?_getD, Array.getElem?_toList, Array.getElem?_map, Array.getElem?_range, if_pos hkl, hzs, z2]
      simp [hzk]
    rw [ha]
    exact h4)
  refine ⟨_, _, F', L ++ [w.heap.size], hrun, ?_, hS', hgo⟩
  refine .mr _ 0 _ n m w.heap.size g ?_ (by omega) hn0 ?_ (by omega)
  · rw [List.getElem?_append_right (by rw [hS.len]; exact Nat.le_refl _), hS.len, Nat.sub_self]; rfl
  · rw [f2, if_pos rfl]; omega

theorem muA_run (hS : St P F L NX w H) {o : Oper} {ρ : Operand → Value} (hT : ∀ x, Rel F L (ev e x) (ρ x)) (hc : ∀ v, ρ (.const v) = v) {r : AV} {H' : Heap} (h : muA P e H o.op = some (r, H')) :
    ∃ u w' F' L', (execOp ρ o).run P w = .ok (.value u) w' ∧ Rel F' L' r u ∧ St P F' L' NX w' H' ∧ Goes (fun _ => False) F L w F' L' w' := by
  obtain ⟨dst, op, type, pos, after, guard⟩ := o
  simp only at h ⊢
  unfold muA at h
  split at h
  · split at h
    · rename_i hnv
      have hnx := isNilV_spec hnv
      subst hnx
      injection h with h; injection h with h1 h2; subst h1 h2
      exact ⟨.slice none 0 0, w, F, L, by simp [execOp, hc], .sc _ rfl, hS, Goes.refl _ F L w⟩
    · cases h
  · rename_i s
    have hs := hT (.tmp s)
    simp only [ev] at hs
    split at h
    · rename_i j off len n g hes
      rw [hes] at hs
      obtain ⟨cs, hj, h⟩ := Option.bind_eq_some_iff.1 h
      split at h
      · rename_i hcond
        obtain ⟨c1, c2, c3, c4⟩ := hcond
        injection h with h; injection h with h1 h2; subst h1 h2
        generalize hv : ρ (.tmp s) = v at hs
        cases hs with
        | mr _ _ _ _ cap B _ hB hcap hn0 hroom hx =>
          have hln : 0 < len * n := Nat.mul_pos c2 hn0
          have hne : cs ≠ [] := fun e => by rw [e] at c3; simp at c3; omega
          obtain ⟨F', arr, f1, f2, f3, hS', hgo⟩ := hS.freeze hj hne hB c4
          have hone' : ∀ c ∈ cs, c.one = true := List.all_eq_true.1 c4
          refine ⟨.slice (some ⟨B, off, none⟩) len cap, w, F', L, by simp [execOp, hv], ?_, hS', hgo⟩
          have hget : ∀ i, i < len * n → ((arr.drop off).take (len * n))[i]? = some (arr.getD (off + i) undef) := by
            intro i hi
            rw [List.getElem?_take, if_pos hi, List.getElem?_drop]
            exact getD_get (by omega)
          have hnl : ((arr.drop off).take (len * n)).length = len * n := by simp; omega
          have hrow : Row F' L n (chunk g n len (cs.drop off)) ((arr.drop off).take (len * n)) := by
            refine ⟨by rw [hnl, chunk_len], fun i e hi => (chunk_cells c1 (by simp; omega) (fun c hc => hone' c (List.mem_of_mem_drop hc)) hi).1, fun i e k c hi hk => ?_⟩
            obtain ⟨h5, h6⟩ := chunk_cells (k := len) c1 (by simp; omega) (fun c hc => hone' c (List.mem_of_mem_drop hc)) hi
            have hkn : k < n := h5 ▸ (List.getElem?_eq_some_iff.1 hk).1
            have hil : i < len := by
              have := (List.getElem?_eq_some_iff.1 hi).1
              rwa [chunk_len] at this
            rw [h6 k hkn, List.getElem?_drop] at hk
            rw [List.getD_eq_getElem?_getD, hget _ (idx_lt hil hkn)]
            exact f3 _ c hk
          have := Rel.mk (B := B) (o := off) (cap := cap) hrow hn0 (by rw [chunk_len]; exact hcap) (fun i u hu => by
            have hil : i < len * n := hnl ▸ (List.getElem?_eq_some_iff.1 hu).1
            rw [hget i hil] at hu
            rw [f2, getD_get (by omega)]
            exact hu)
          rwa [chunk_len] at this
      · cases h
    · rename_i hes
      split at h
      · rename_i hnv
        have hnx := isNilV_spec hnv
        subst hnx
        rw [hes] at hs
        injection h with h; injection h with h1 h2; subst h1 h2
        have hv := nil_val hs
        exact ⟨.slice none 0 0, w, F, L, by simp [execOp, hv], .sl0 none 0 (fun _ => rfl), hS, Goes.refl _ F L w⟩
      · cases h
    · rename_i xs j hes
      injection h with h; injection h with h1 h2; subst h1 h2
      rw [hes] at hs
      exact ⟨ρ (.tmp s), w, F, L, by simp [execOp], hs.owA, hS, Goes.refl _ F L w⟩
    · cases h
  · rename_i args ts
    split at h
    · rename_i x y t u hargs hts
      have e1 : args = #[x, y] := by obtain ⟨l⟩ := args; simp at hargs; subst hargs; rfl
      have e2 : ts = #[t, u] := by obtain ⟨l⟩ := ts; simp at hts; subst hts; rfl
      subst e1 e2
      obtain ⟨v, w', F', L', h1, h2, h3, h4⟩ := appendM_run (ty := type) hS (hT x) (hT y) h
      refine ⟨v, w', F', L', ?_, h2, h3, h4⟩
      unfold execOp
      simp only [resolve, invoke, builtin, Sem.run_bind, Sem.run_pure, Result.andThen_ok, List.map_toArray, List.map_cons, List.map_nil, h1]
    · cases h
  · rename_i t l c
    obtain ⟨v, w', F', L', h1, h2, h3, h4⟩ := makeA_run hS (hT l) (hT c) h
    exact ⟨v, w', F', L', by simp [execOp, h1], h2, h3, h4⟩
  · cases h

theorem mu_ok (hI : Inv P G F0 L0 w0 N O e H F L a w) (hA : AliasOK A a) {o : Oper} {r : AV} {H' : Heap} (h : muA P e H o.op = some (r, H')) (hd : ∀ d', o.dst = some d' → d' < N)
    {next : Act → World → Prop} {Q : Exit → Act → World → Prop}
    (hn : ∀ F' L' u w', Inv P G F0 L0 w0 N (killO o.dst O) (put e o.dst r) H' F' L' (a.put o.dst u) w' → AliasOK (killA o.dst A) (a.put o.dst u) → next (a.put o.dst u) w') : o.wp P a w next Q := by
  obtain ⟨u, w', F', L', h1, h2, h3, h4⟩ := muA_run (o := o) (ρ := a.eval) hI.st hI.ev (fun v => rfl) h
  unfold Oper.wp
  rw [h1]
  have := hI.step (O1 := O) (new := []) (u := u) (r := r) hd h3 h4 h2 (fun B hB hg => hg.elim) (fun p hp => hp) (fun p hp B hB hg => hg) (by simp) (by simp) (by simp)
  exact hn F' L' u w' (by simpa using this) (hA.kill (fun d' he => Nat.lt_of_lt_of_le (hd d' he) hI.size) u)
end
end Go.Lv
