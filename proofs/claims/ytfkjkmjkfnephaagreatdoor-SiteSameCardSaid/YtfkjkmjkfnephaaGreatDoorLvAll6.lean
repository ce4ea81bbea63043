/- A value semantics of the loaded code, its soundness, and walks through functions over it. -/
import Derived.Test.YtfkjkmjkfnephaaGreatDoorLvAll5
import Derived.Laws.MakeOwn
import Derived.Laws.IdiomCopy
set_option linter.unusedVariables false
set_option linter.unusedSimpArgs false
namespace Go.Lv
section
variable {P : Program} {C : Cfg} {G : Nat → Prop} {F0 : Facts} {L0 : List Nat} {w0 : World} {N : Nat} {O O' : OSet} {A A' : List (Nat × Nat)} {e : Env} {H : Heap} {F : Facts} {L : List Nat} {a : Act} {w : World}
theorem set_live {H : Heap} {j j' : Nat} {cs : List AV} (h : (H.set j [])[j']? = some cs) (hne : cs ≠ []) : j' ≠ j ∧ H[j']? = some cs := by
 by_cases hjj : j' = j
 ·subst hjj
  have hl : j' < H.length := by
   have := (xgI.1 h).1
   simpa using this
  rw [List.getElem?_set_self hl] at h
  injection h with h
  exact absurd h.symm hne
 ·rw [List.getElem?_set_ne (fun e => hjj e.symm)] at h
  exact ⟨hjj, h⟩
theorem St.freeze (hS : St P F L NX w H) {j B : Nat} {cs : List AV} (hj : H[j]? = some cs) (hne : cs ≠ []) (hB : L[j]? = some B) (hone : cs.all AV.one = true) :
  ∃ (F' : Facts) (arr : List Value), arr.length = cs.length ∧ (∀ i, F' B i = arr[i]?) ∧ (∀ (k : Nat) c, cs[k]? = some c → Rel F' L c (arr.getD k undef)) ∧ St P F' L NX w (H.set j []) ∧ Goes (fun _ => False) F L w F' L w := by
 have hpl := plainRow_spec (plainRow_one hone)
 obtain ⟨arr0, t, h1, h2, h3, h4⟩ := hS.obj j cs B hj hne hpl.1 hB
 obtain ⟨arr, harr⟩ : ∃ arr, arr = arr0.take cs.length := ⟨_, rfl⟩
 have hal : arr.length = cs.length := by rw [harr]; simp; omega
 have hag : ∀ k, k < cs.length → arr.getD k undef = arr0.getD k undef := by
  intro k hk
  rw [harr, xgD, List.getElem?_take, if_pos hk, ← xgD]
 obtain ⟨F', hFr, hF⟩ : ∃ F' : Facts, F'.room = F.room ∧ ∀ b i, F' b i = if b = B then arr[i]? else F b i := ⟨⟨fun b i => if b = B then arr[i]? else F b i, F.room⟩, rfl, fun _ _ => rfl⟩
 have hmono : ∀ b i v, F b i = some v → F' b i = some v := by
  intro b i v h
  rw [hF]
  split
  ·rename_i hb
   subst hb
   rw [hS.nof j cs b hj hne hB i (by rw [hpl.2]; exact Nat.zero_le _)] at h
   cases h
  ·exact h
 have hgo : Goes (fun _ => False) F L w F' L w :=
  ⟨Nat.le_refl _, fun b _ _ hb => ⟨rfl, fun i => by rw [hF, if_neg (fun (e : b = B) => hb (e ▸ mem_of_get hB))]⟩, hmono, fun _ _ h => h, fun _ h => .inl h, ⟨rfl, rfl, rfl⟩, fun b => by rw [hFr]; exact Nat.le_refl _⟩
 have hother : ∀ (j' : Nat) cs' B', (H.set j [])[j']? = some cs' → cs' ≠ [] → L[j']? = some B' → H[j']? = some cs' ∧ B' ≠ B := by
  intro j' cs' B' hj' hne' hB'
  obtain ⟨k1, k2⟩ := set_live hj' hne'
  exact ⟨k2, fun e => k1 (hS.inj j' j cs' cs B k2 hne' hj hne (e ▸ hB') hB)⟩
 refine ⟨F', arr, hal, fun i => by rw [hF, if_pos rfl], fun k c hk => ?_, ⟨fun b i v h => ?_, by simp [hS.len], fun j' cs' B' hj' hne' hmv' hB' => ?_, hS.lt, fun j' cs' B' hj' hne' hB' i hi => ?_, hS.nox, fun i1 j1 c1 c2 B1 hi1 hn1 hj1 hn2 hb1 hb2 => ?_, hS.xlt, fun b hb => by rw [hFr]; exact hS.room0 b hb, fun j' ks vs B' hj' hB' => ?_, fun j' cs' B' hj' hpl' hB' => by
  by_cases hne' : cs' = []
  ·rw [hne']; exact Nat.zero_le _
  ·rw [hFr]; exact hS.rm j' cs' B' (hother j' cs' B' hj' hne' hB').1 hpl' hB'⟩, hgo⟩
 ·rw [hag k (xgI.1 hk).1]
  exact (h4 k c hk).goes hgo
 ·rw [hF] at h
  split at h
  ·rename_i hb
   subst hb
   have hi : i < arr.length := (xgI.1 h).1
   have hic : i < cs.length := hal ▸ hi
   have hv : v = arr0.getD i undef := by
    rw [← hag i hic, xgD, h]; rfl
   refine ⟨by rw [h1.cell, getD_get (by omega), hv], ?_⟩
   rw [hv]
   exact (h4 i _ (xgE hic)).one (List.all_eq_true.1 hone _ (List.getElem_mem hic))
  ·exact hS.mem _ _ _ h
 ·obtain ⟨k1, k2⟩ := hother j' cs' B' hj' hne' hB'
  obtain ⟨arr', t', m1, m2, m3, m4⟩ := hS.obj j' cs' B' k1 hne' hmv' hB'
  exact ⟨arr', t', m1, m2, by rw [hFr]; exact m3, fun k c hk => (m4 k c hk).goes hgo⟩
 ·obtain ⟨k1, k2⟩ := hother j' cs' B' hj' hne' hB'
  rw [hF, if_neg k2]
  exact hS.nof j' cs' B' k1 hne' hB' i hi
 ·exact hS.inj i1 j1 c1 c2 B1 (set_live hi1 hn1).2 hn1 (set_live hj1 hn2).2 hn2 hb1 hb2
 ·exact (hS.mob j' ks vs B' (set_live hj' (by simp)).2 hB').goes hgo rfl
theorem St.redo (hS : St P F L NX w H) {j B : Nat} {cs cs' : List AV} (hj : H[j]? = some cs) (hne : cs ≠ []) (hpl : plainRow cs = true) (hmc : isMv cs' = false) (hB : L[j]? = some B) {w' : World} {arr' : List Value} {t : TypeId}
  (hsize : w'.heap.size = w.heap.size) (hold : ∀ b, b < w.heap.size → b ≠ B → w'.heap[b]? = w.heap[b]?) (hnew : Holds w' B arr' t) (hrest : w'.os = w.os ∧ w'.tape = w.tape ∧ w'.output = w.output)
  (hcr : cs'.length ≤ F.room B) (hroom : F.room B ≤ arr'.length) (hr : ∀ (k : Nat) c, cs'[k]? = some c → Rel F L c (arr'.getD k undef)) :
  St P F (L ++ [B]) NX w' (H.set j [] ++ [cs']) ∧ Goes (fun _ => False) F L w F (L ++ [B]) w' := by
 have hl : cs'.length ≤ arr'.length := Nat.le_trans hcr hroom
 have hBL := mem_of_get hB
 have hgo : Goes (fun _ => False) F L w F (L ++ [B]) w' := by
  refine ⟨by omega, fun b hb _ hbL => ⟨hold b hb (fun e => hbL (e ▸ hBL)), fun i => rfl⟩, fun _ _ _ h => h, fun i b h => ?_, fun b hb => ?_, hrest, fun _ => Nat.le_refl _⟩
  ·rw [xgL (xgI.1 h).1]; exact h
  ·rcases List.mem_append.1 hb with h | h
   ·exact .inl h
   ·simp at h; subst h; exact .inl hBL
 have old : ∀ (j' : Nat) ds B', (H.set j [] ++ [cs'])[j']? = some ds → ds ≠ [] → (L ++ [B])[j']? = some B' → (H[j']? = some ds ∧ L[j']? = some B' ∧ B' ≠ B) ∨ (j' = L.length ∧ ds = cs' ∧ B' = B) := by
  intro j' ds B' h1 h2 h3
  have hlen : (H.set j []).length = L.length := by simp [hS.len]
  rcases Nat.lt_or_ge j' L.length with hl | hl
  ·rw [xgL hl] at h3
   rw [xgL (hlen ▸ hl)] at h1
   obtain ⟨k1, k2⟩ := set_live h1 h2
   exact .inl ⟨k2, h3, fun e => k1 (hS.inj j' j ds cs B k2 h2 hj hne (e ▸ h3) hB)⟩
  ·rw [xgR hl] at h3
   rw [xgR (hlen ▸ hl), hlen] at h1
   have h0 : j' - L.length = 0 := by
    have := (xgI.1 h3).1
    simp at this
    omega
   rw [h0] at h1 h3
   simp at h1 h3
   exact .inr ⟨by omega, h1.symm, h3.symm⟩
 refine ⟨⟨fun b i v h => ?_, by simp [hS.len], fun j' ds B' h1 h2 hmv h3 => ?_, fun b hb => ?_, fun j' ds B' h1 h2 h3 i hi => ?_, fun b hb => by simp [NX], fun i1 j1 c1 c2 B1 hi1 hn1 hj1 hn2 hb1 hb2 => ?_, fun b hb => (by simp [NX] at hb), fun b hb => hS.room0 b (by omega), fun j' ks vs B' h1 h3 => ?_, fun j' ds B' h1 hpl' h3 => by
  by_cases h2 : ds = []
  ·rw [h2]; exact Nat.zero_le _
  ·rcases old j' ds B' h1 h2 h3 with ⟨k1, k2, k3⟩ | ⟨k1, rfl, rfl⟩
   ·exact hS.rm j' ds B' k1 hpl' k2
   ·exact hcr⟩, hgo⟩
 ·obtain ⟨m1, m2⟩ := hS.mem _ _ _ h
  refine ⟨?_, m2⟩
  by_cases hb : b = B
  ·subst hb
   rw [hS.nof j cs b hj hne hB i (by rw [(plainRow_spec hpl).2]; exact Nat.zero_le _)] at h
   cases h
  ·rw [cell?_same (hold b (hS.ltF h) hb)]; exact m1
 ·rcases old j' ds B' h1 h2 h3 with ⟨k1, k2, k3⟩ | ⟨k1, rfl, rfl⟩
  ·obtain ⟨arr, t', m1, m2, m3, m4⟩ := hS.obj j' ds B' k1 h2 hmv k2
   exact ⟨arr, t', m1.same (hold B' (hS.ltL (mem_of_get k2)) k3), m2, m3, fun k c hk => (m4 k c hk).goes hgo⟩
  ·exact ⟨arr', t, hnew, hl, hroom, fun k c hk => (hr k c hk).goes hgo⟩
 ·rw [hsize]
  rcases List.mem_append.1 hb with h | h
  ·exact hS.lt b h
  ·simp at h; subst h; exact hS.lt _ hBL
 ·rcases old j' ds B' h1 h2 h3 with ⟨k1, k2, k3⟩ | ⟨k1, rfl, rfl⟩
  ·exact hS.nof j' ds B' k1 h2 k2 i hi
  ·exact hS.nof j cs B' hj hne hB i (by rw [(plainRow_spec hpl).2]; exact Nat.zero_le _)
 ·rcases old i1 c1 B1 hi1 hn1 hb1 with ⟨k1, k2, k3⟩ | ⟨k1, k2, k3⟩ <;> rcases old j1 c2 B1 hj1 hn2 hb2 with ⟨m1, m2, m3⟩ | ⟨m1, m2, m3⟩
  ·exact hS.inj i1 j1 c1 c2 B1 k1 hn1 m1 hn2 k2 m2
  ·exact absurd m3 k3
  ·exact absurd k3 m3
  ·omega
 ·rcases old j' _ B' h1 (by simp) h3 with ⟨k1, k2, k3⟩ | ⟨k1, k2, k3⟩
  ·exact (hS.mob j' ks vs B' k1 k2).goes hgo (hold B' (hS.ltL (mem_of_get k2)) k3)
  ·rw [← k2] at hmc; cases hmc
theorem setCells_size (B : Nat) : ∀ (vs : List Value) (o : Nat) (w : World), (w.setCells B o vs).heap.size = w.heap.size := by
 intro vs
 induction vs with
 | nil => intro o w; rfl
 | cons v vs ih => intro o w; rw [World.setCells, ih]; simp [World.setCell]
theorem setCells_tape (B : Nat) : ∀ (vs : List Value) (o : Nat) (w : World), (w.setCells B o vs).tape = w.tape := by
 intro vs
 induction vs with
 | nil => intro o w; rfl
 | cons v vs ih => intro o w; rw [World.setCells, ih]; simp [World.setCell]
theorem row_flat {n : Nat} {ys : List AV} {vs : List Value} (hr : Row F L n ys vs) (hn0 : 0 < n) : ∀ (k : Nat) c, (ys.flatMap AV.cells)[k]? = some c → Rel F L c (vs.getD k undef) := by
 have key : ∀ (ys : List AV) (vs : List Value), Row F L n ys vs → ∀ (k : Nat) c, (ys.flatMap AV.cells)[k]? = some c → ∃ i e m, ys[i]? = some e ∧ e.cells[m]? = some c ∧ m < n ∧ k = i * n + m := by
  intro ys
  induction ys with
  | nil => intro vs h k c hk; simp at hk
  | cons y ys ih =>
   intro vs h k c hk
   have hy := h.each 0 y rfl
   rw [List.flatMap_cons] at hk
   rcases Nat.lt_or_ge k n with hl | hl
   ·rw [xgL (by omega)] at hk
    exact ⟨0, y, k, rfl, hk, hl, by omega⟩
   ·rw [xgR (by omega), hy] at hk
    have h' : Row F L n ys (vs.drop n) := by
     refine ⟨by rw [List.length_drop, h.len, List.length_cons, Nat.add_mul]; omega, fun i e hi => h.each (i + 1) e hi, fun i e k c hi hk => ?_⟩
     have := h.rel (i + 1) e k c hi hk
     rw [xgD] at this ⊢
     rw [List.getElem?_drop]
     rwa [show n + (i * n + k) = (i + 1) * n + k by rw [Nat.add_mul]; omega]
    obtain ⟨i, e, m, h1, h2, h3, h4⟩ := ih _ h' _ c hk
    exact ⟨i + 1, e, m, h1, h2, h3, by rw [Nat.add_mul]; omega⟩
 intro k c hk
 obtain ⟨i, e, m, h1, h2, h3, rfl⟩ := key ys vs hr k c hk
 exact hr.rel i e m c h1 h2
theorem flat_length {n : Nat} : ∀ (ys : List AV), (∀ a ∈ ys, a.cells.length = n) → (ys.flatMap AV.cells).length = ys.length * n := by
 intro ys
 induction ys with
 | nil => intro _; simp
 | cons y ys ih => intro h; rw [List.flatMap_cons, List.length_append, h y (by simp), ih (fun a ha => h a (by simp [ha])), List.length_cons, Nat.add_mul]; omega
theorem run_first0 (w : World) (n : Nat) (a : Option Addr) : (Builtin.firstCells n 0 (.slice a 0 0)).run P w = .ok #[] w := by
 cases a with
 | none => exact run_firstCells_none w n 0 0 0
 | some a => exact run_firstCells_some w n 0 a 0 0 [] (by simp) (by simp)
theorem nil_val {v : Value} (h : Rel F L nilA v) : v = .slice none 0 0 := by
 unfold nilA at h
 obtain ⟨hv, _⟩ := h.v_eq
 exact hv.symm
theorem appendM1_run (hS : St P F L NX w H) {t tx ty : TypeId} {xa xb : AV} {v y : Value} {r : AV} {H' : Heap} (hx : Rel F L xa v) (hy : Rel F L xb y) (h : appendM1 P H t tx xa (viewR P H tx xb) = some (r, H')) :
  ∃ u w' F' L', (Builtin.append_ #[t, tx] ty #[v, y]).run P w = .ok u w' ∧ Rel F' L' r u ∧ St P F' L' NX w' H' ∧ Goes (fun _ => False) F L w F' L' w' := by
 generalize hv : viewR P H tx xb = xc at h
 unfold appendM1 at h
 split at h
 ·rename_i el el' ys ht htx
  split at h
  ·rename_i n by_ z g hn hby hz hag
   split at h
   ·rename_i hc
    obtain ⟨hn0, hzl, hys, hpos⟩ := hc
    have hyn : ∀ a ∈ ys, a.cells.length = n := fun a ha => (hys a ha).1
    obtain ⟨news, hsrc, hrow⟩ := view_src hS htx hy hn0 hv hyn
    obtain ⟨ie, hie, hien⟩ : ∃ ie, P.info? el = some ie ∧ ie.size = n := by
     unfold sizeT at hn
     obtain ⟨ie, h1, h2⟩ := xoM.1 hn
     exact ⟨ie, h1, h2⟩
    have hieb : ie.bytes = by_ := by unfold bytesT at hby; simpa [hie] using hby
    obtain ⟨zv, zarr, z1, z2, z3, z4, z5⟩ := zeroA_run (P := P) (F := F) (L := L) (w := w) hz
    have hzz : ie.zero = some zv := by simpa [hie] using z5
    have hnl : news.length = ys.length * n := hsrc.newsLen
    have hflat := flat_length (n := n) ys hyn
    have hrf := row_flat hrow hn0
    have hfone : (ys.flatMap AV.cells).all AV.one = true := by
     rw [List.all_eq_true]
     intro c hc
     obtain ⟨a, ha, hca⟩ := List.mem_flatMap.1 hc
     exact List.all_eq_true.1 (hys a ha).2 c hca
    have hfne : ys.flatMap AV.cells ≠ [] := by
     intro he
     have := congrArg List.length he
     rw [hflat] at this
     have h2 : 0 < ys.length * n := Nat.mul_pos hpos hn0
     simp at this
     omega
    have grow : ∀ (base : Option Addr) (len cap : Nat) (olds : List Value) (cs0 : List AV) (H0 : Heap), v = .slice base len cap → olds.length = len * n → cs0.length = len * n → (∀ (k : Nat) c, cs0[k]? = some c → Rel F L c (olds.getD k undef)) →
      (∀ w', (Builtin.firstCells n len (.slice base len cap)).run P w' = .ok olds.toArray w' ∨ w' ≠ w.drew) → cap < len + ys.length → (len + ys.length) * (by_ + 1) ≤ 140737488355328 → St P F L NX w H0 →
      ∃ u w' F' L', (Builtin.append_ #[t, tx] ty #[v, y]).run P w = .ok u w' ∧ Rel F' L' (.mr H0.length 0 (len + ys.length) n g) u ∧ St P F' L' NX w' (H0 ++ [cs0 ++ ys.flatMap AV.cells]) ∧ Goes (fun _ => False) F L w F' L' w' := by
     intro base len cap olds cs0 H0 hv' hol hcl hor hfirst hcap hle hS0
     subst hv'
     have hml : len + ys.length ≤ 140737488355328 := Nat.le_trans (Nat.le_mul_of_pos_right _ (by omega)) hle
     have hbytes : (len + ys.length) * ie.bytes ≤ 140737488355328 := by
      rw [hieb]
      rw [Nat.mul_add, Nat.mul_one] at hle
      omega
     have hold : (Builtin.firstCells ie.size len (.slice base len cap)).run P w.drew = .ok olds.toArray w.drew := by
      rw [hien]
      rcases hfirst w.drew with h | h
      ·exact h
      ·exact absurd rfl h
     have hr0 := run_append_grow_src w t tx ty el ie zv ht hie hzz base len cap olds hold y ys.length news (by rw [hien]; exact hsrc) (by omega) (by omega) (growslice_fits (by omega) hbytes)
     obtain ⟨c', hc'⟩ : ∃ c', c' = grownCap w (len + ys.length) cap el := ⟨_, rfl⟩
     have hge : len + ys.length ≤ c' := hc' ▸ grownCap_ge w _ _ _
     rw [← hc'] at hr0
     obtain ⟨arr, harr⟩ : ∃ arr : List Value, arr = (olds ++ news) ++ (Builtin.zeroCells zv.cells (c' - (len + ys.length))).toList := ⟨_, rfl⟩
     have harr' : (olds ++ news).toArray ++ Builtin.zeroCells zv.cells (c' - (len + ys.length)) = arr.toArray := by
      rw [harr]
      apply Array.ext'
      simp
     rw [harr'] at hr0
     have hg : Grew w (w.drew.alloc (.cells arr.toArray el)) arr el (0, 0) :=
      ⟨by simp, fun B hB => Go.heap_alloc_old w.drew _ B hB, Go.heap_alloc_new w.drew _, rfl, rfl, rfl⟩
     have hzc : (Builtin.zeroCells zv.cells (c' - (len + ys.length))).toList.length = (c' - (len + ys.length)) * n := by
      rw [Array.length_toList, size_zeroCells, z2]
      simp [z3, hzl]
     have hal : arr.length = c' * n := by
      rw [harr, List.length_append, List.length_append, hol, hnl, hzc, ← Nat.add_mul, ← Nat.add_mul]
      congr 1; omega
     have hcc : (cs0 ++ ys.flatMap AV.cells).length = (len + ys.length) * n := by rw [List.length_append, hcl, hflat, Nat.add_mul]
     obtain ⟨F', f1, f2, hS', hgo⟩ := hS0.varR hg (cs0 ++ ys.flatMap AV.cells) (c' * n) (by omega) (isMv_append hfne hfone) (by rw [hcc]; exact Nat.mul_le_mul_right n hge) (fun k c hk => by
      rw [harr, xgD]
      rcases Nat.lt_or_ge k (len * n) with hl | hl
      ·rw [xgL (by omega)] at hk
       rw [List.append_assoc, xgL (by omega), ← xgD]
       exact hor k c hk
      ·rw [xgR (by omega), hcl] at hk
       have hkl := (xgI.1 hk).1
       rw [List.append_assoc, xgR (by omega), xgL (by rw [hnl, ← hflat, hol]; exact hkl), hol, ← xgD]
       exact hrf _ c hk)
     refine ⟨_, _, F', L ++ [w.heap.size], hr0, ?_, hS', hgo⟩
     refine .mr _ 0 _ n c' w.heap.size g ?_ hge hn0 ?_ (by rw [hc']; exact grownCap_le_maxLen w _ _ _ (by unfold maxLen; omega))
     ·rw [xgR (by rw [hS0.len]; exact Nat.le_refl _), hS0.len, Nat.sub_self]; rfl
     ·rw [f2, if_pos rfl]; omega
    split at h
    ·-- behind nothing
     split at h
     ·rename_i hle
      obtain ⟨hnv, hle⟩ := hle
      have hnx := isNilV_spec hnv
      subst hnx
      injection h with h; injection h with h1 h2; subst h1 h2
      have hvn : v = .slice none 0 0 := nil_val hx
      have := grow none 0 0 [] [] H hvn (by simp) (by simp) (by simp) (fun w' => .inl (run_firstCells_none w' n 0 0 0)) (by omega) (by simpa using hle) hS
      simpa using this
     ·cases h
    ·split at h
     ·rename_i hle
      injection h with h; injection h with h1 h2; subst h1 h2
      cases hx with
      | ow _ _ B len cap sz vals h hl h0 hc hs hnn hf hr hm hx => simp at hl; omega
      | ow0 _ a =>
       have := grow a 0 0 [] [] H rfl (by simp) (by simp) (by simp) (fun w' => .inl (run_first0 w' n a)) (by omega) (by simpa using hle) hS
       simpa using this
     ·cases h
    ·rename_i j len n' g'
     obtain ⟨cs, hj, h⟩ := xoB.1 h
     split at h
     ·rename_i hc
      obtain ⟨rfl, rfl, hle, hlc, hne, hpl, hone⟩ := hc
      injection h with h; injection h with h1 h2; subst h1 h2
      cases hx with
      | mr _ _ _ _ cap B _ hB hcap hn' hroom hx =>
       obtain ⟨arr, ta, m1, m2, m3, m4⟩ := hS.obj j cs B hj hne (plainRow_spec hpl).1 hB
       have hlen' : (H.set j []).length = H.length := by simp
       have htk : (cs.take (len * n')).length = len * n' := by simp; omega
       by_cases hrm : len + ys.length ≤ cap
       ·-- there is room
        have hcn : (len + ys.length) * n' ≤ cap * n' := Nat.mul_le_mul_right n' hrm
        have hfit : len * n' + news.length ≤ arr.length := by
         rw [hnl, ← Nat.add_mul]; omega
        have hcell : ∀ i, i < news.length → (w.cell? ⟨B, 0 + len * n' + i, none⟩).isSome = true := by
         intro i hi
         rw [m1.cell, xgE (by omega)]; rfl
        have hr0 := run_append_room_src w t tx ty el ie ht hie B 0 len cap y ys.length news (by rw [hien]; exact hsrc) hrm
         (fun i hi => by rw [hien]; exact hcell i hi) (fun i hi => by rw [hien]; exact m1.soft (by omega))
        rw [hien, Nat.zero_add] at hr0
        obtain ⟨fr, m0, hfr⟩ := m1
        obtain ⟨arr', k1, k2, k3⟩ := setCells_row B news (len * n') w arr ta m0 hfit
        obtain ⟨hS', hgo⟩ := hS.redo (cs' := cs.take (len * n') ++ ys.flatMap AV.cells) hj hne hpl (isMv_append hfne hfone) hB (setCells_size B news _ w) (fun b hb hne => World.heap_setCells_other w B _ news hb hne) ⟨fr, k1, by rw [k2]; exact hfr⟩
         ⟨World.os_setCells w B _ news, setCells_tape B news _ w, World.output_setCells w B _ news⟩
         (by rw [List.length_append, htk, hflat, ← Nat.add_mul]; omega) (by omega) (fun k c hk => by
          rw [xgD, k3]
          rcases Nat.lt_or_ge k (len * n') with hl | hl
          ·rw [xgL (by omega), List.getElem?_take, if_pos hl] at hk
           rw [if_neg (by omega), ← xgD]
           exact m4 k c hk
          ·rw [xgR (by omega), htk] at hk
           have hkl := (xgI.1 hk).1
           rw [if_pos (by omega), ← xgD]
           exact hrf _ c hk)
        refine ⟨_, _, F, L ++ [B], hr0, ?_, hS', hgo⟩
        refine .mr _ 0 _ n' cap B g' ?_ hrm hn0 hroom hx
        rw [xgR (by rw [hS.len]; exact Nat.le_refl _), hS.len, Nat.sub_self]; rfl
       ·-- there is none
        obtain ⟨olds, hol⟩ : ∃ olds, olds = arr.take (len * n') := ⟨_, rfl⟩
        have holl : olds.length = len * n' := by rw [hol]; simp; omega
        obtain ⟨F1, _, _, _, _, hS1, hgo1⟩ : ∃ (F1 : Facts) (arr1 : List Value), True ∧ True ∧ True ∧ St P F L NX w (H.set j []) ∧ True := ⟨F, [], trivial, trivial, trivial, ⟨hS.mem, by simp [hS.len], fun j' cs' B' hj' hne' hmv' hB' => hS.obj j' cs' B' (set_live hj' hne').2 hne' hmv' hB', hS.lt, fun j' cs' B' hj' hne' hB' => hS.nof j' cs' B' (set_live hj' hne').2 hne' hB', hS.nox,
         fun i1 j1 c1 c2 B1 hi1 hn1 hj1 hn2 hb1 hb2 => hS.inj i1 j1 c1 c2 B1 (set_live hi1 hn1).2 hn1 (set_live hj1 hn2).2 hn2 hb1 hb2, hS.xlt, hS.room0, fun j' ks vs B' hj' hB' => hS.mob j' ks vs B' (set_live hj' (by simp)).2 hB', fun j' cs' B' hj' hpl' hB' => by
          by_cases hne' : cs' = []
          ·rw [hne']; exact Nat.zero_le _
          ·exact hS.rm j' cs' B' (set_live hj' hne').2 hpl' hB'⟩, trivial⟩
        have := grow (some ⟨B, 0, none⟩) len cap olds (cs.take (len * n')) (H.set j []) rfl holl htk (fun k c hk => by
          have hkl : k < len * n' := htk ▸ (xgI.1 hk).1
          rw [List.getElem?_take, if_pos hkl] at hk
          rw [hol, xgD, List.getElem?_take, if_pos hkl, ← xgD]
          exact m4 k c hk)
         (fun w' => by
          by_cases hw : w' = w.drew
          ·refine .inl ?_
           subst hw
           exact run_firstCells_some w.drew n' len ⟨B, 0, none⟩ len cap olds holl (fun i u hu => by
            have hil : i < len * n' := holl ▸ (xgI.1 hu).1
            rw [add_at, Nat.zero_add]
            show w.cell? ⟨B, i, none⟩ = some u
            rw [m1.cell, ← hu, hol, List.getElem?_take, if_pos hil])
          ·exact .inr hw) (by omega) hle hS1
        rw [hlen'] at this
        exact this
     ·cases h
    ·cases h
   ·cases h
  ·cases h
 ·cases h
theorem appendM_run (hS : St P F L NX w H) {t tx ty : TypeId} {xa xb : AV} {v y : Value} {r : AV} {H' : Heap} (hx : Rel F L xa v) (hy : Rel F L xb y) (h : appendM P H t tx xa (viewR P H tx xb) = some (r, H')) :
  ∃ u w' F' L', (Builtin.append_ #[t, tx] ty #[v, y]).run P w = .ok u w' ∧ Rel F' L' r u ∧ St P F' L' NX w' H' ∧ Goes (fun _ => False) F L w F' L' w' := by
 by_cases he : viewR P H tx xb = .sl []
 ·rw [he] at h
  change appendM0 P H t tx xa = some (r, H') at h
  unfold appendM0 at h
  split at h
  ·rename_i el el' j off len n g ht htx
   split at h
   ·rename_i hc
    obtain ⟨hn, hn0⟩ := hc
    injection h with h; injection h with h1 h2; subst h1 h2
    obtain ⟨news, hsrc, hrow⟩ := view_src hS htx hy hn0 he (by simp)
    have hnw : news = [] := List.eq_nil_of_length_eq_zero (by simpa using hrow.len)
    subst hnw
    obtain ⟨ie, hie, hien⟩ : ∃ ie, P.info? el = some ie ∧ ie.size = n := by
     unfold sizeT at hn
     obtain ⟨ie, h1, h2⟩ := xoM.1 hn
     exact ⟨ie, h1, h2⟩
    have hx0 := hx
    cases hx with
    | mr _ _ _ _ cap B _ hB hcap hn0' hroom hxx =>
     have hr0 := run_append_nothing w t tx ty el ie ht hie (some ⟨B, off, none⟩) len cap hcap y (by rw [hien]; exact hsrc)
     exact ⟨_, w, F, L, hr0, hx0, hS, Goes.refl _ F L w⟩
   ·cases h
  ·rename_i el el' j ht htx
   obtain ⟨n, hn, hh⟩ := xoB.1 h
   clear h
   split at hh
   ·rename_i hn0
    injection hh with hh; injection hh with h1 h2; subst h1 h2
    obtain ⟨news, hsrc, hrow⟩ := view_src hS htx hy hn0 he (by simp)
    have hnw : news = [] := List.eq_nil_of_length_eq_zero (by simpa using hrow.len)
    subst hnw
    obtain ⟨ie, hie, hien⟩ : ∃ ie, P.info? el = some ie ∧ ie.size = n := by
     unfold sizeT at hn
     obtain ⟨ie, h1, h2⟩ := xoM.1 hn
     exact ⟨ie, h1, h2⟩
    have hx0 := hx
    cases hx with
    | ow _ _ B len cap sz vals h hl h0 hc hs hnn hf hr hm hx => simp at hl; omega
    | ow0 _ a =>
     have hr0 := run_append_nothing w t tx ty el ie ht hie a 0 0 (Nat.le_refl _) y (by rw [hien]; exact hsrc)
     exact ⟨_, w, F, L, hr0, hx0, hS, Goes.refl _ F L w⟩
   ·cases hh
  ·cases h
 ·refine appendM1_run hS hx hy ?_
  rw [← h]
  unfold appendM
  split
  ·rename_i h0; exact absurd h0 he
  ·rfl
theorem zeroA_one {t : TypeId} {z : List AV} (h : zeroA P t = some z) : z.all AV.one = true := by
 unfold zeroA at h
 obtain ⟨v, hv, h⟩ := xoB.1 h
 split at h
 ·rename_i hone
  injection h with h; subst h
  exact hone
 ·cases h
theorem makeA_run (hS : St P F L NX w H) {t : TypeId} {xl xc : AV} {vl vc : Value} {r : AV} {H' : Heap} (hl : Rel F L xl vl) (hc : Rel F L xc vc) (h : makeA P H t xl xc = some (r, H')) :
  ∃ u w' F' L', (Instr.makeSlice t vl vc).run P w = .ok u w' ∧ Rel F' L' r u ∧ St P F' L' NX w' H' ∧ Goes (fun _ => False) F L w F' L' w' := by
 unfold makeA at h
 split at h
 case h_2 => cases h
 rename_i e l c he
 obtain ⟨hvl, _⟩ := hl.v_eq
 obtain ⟨hvc, _⟩ := hc.v_eq
 subst hvl hvc
 split at h
 case h_2 => cases h
 rename_i n by_ z g hn hby hz hag
 split at h
 case isFalse => cases h
 rename_i hcond
 obtain ⟨h0, hlc, hc0, hle, hn0, hzl⟩ := hcond
 injection h with h; injection h with h1 h2; subst h1 h2
 have ht : P.underlying t = some (.slice e) := by
  unfold elemOfT at he
  split at he
  ·injection he with he; subst he; assumption
  ·cases he
 obtain ⟨ie, hie, hien⟩ : ∃ ie, P.info? e = some ie ∧ ie.size = n := by
  unfold sizeT at hn
  obtain ⟨ie, h1, h2⟩ := xoM.1 hn
  exact ⟨ie, h1, h2⟩
 have hieb : ie.bytes = by_ := by unfold bytesT at hby; simpa [hie] using hby
 obtain ⟨zv, zarr, z1, z2, z3, z4, z5⟩ := zeroA_run (P := P) (F := F) (L := L) (w := w) hz
 have hzz : ie.zero = some zv := by simpa [hie] using z5
 obtain ⟨m, hm⟩ : ∃ m : Nat, c = m := ⟨c.toNat, by omega⟩
 subst hm
 rw [Int.toNat_natCast] at hle
 have hb2 : ie.bytes * m ≤ 140737488355328 := by
  rw [hieb]
  have : m * by_ ≤ m * (by_ + 1) := Nat.mul_le_mul_left _ (by omega)
  rw [Nat.mul_comm]; omega
 have hm2 : m ≤ 140737488355328 := Nat.le_trans (Nat.le_mul_of_pos_right _ (by omega)) hle
 have hrun := Go.run_make w t e ie zv ht hie hzz .i64 .i64 l m h0 hlc (by
  have : (ie.bytes : Int) * (m : Int) = ((ie.bytes * m : Nat) : Int) := by push_cast; rfl
  omega) (by omega)
 rw [Int.toNat_natCast, hien] at hrun
 obtain ⟨arr, harr⟩ : ∃ arr : List Value, arr = (Go.madeCells zv.cells (m * n)).toList := ⟨_, rfl⟩
 have harr' : Go.madeCells zv.cells (m * n) = arr.toArray := by rw [harr]
 have hal : arr.length = m * n := by rw [harr, Array.length_toList, Go.size_madeCells]
 rw [harr'] at hrun
 have hg : Grew w (w.alloc (.cells arr.toArray e)) arr e (0, 0) := Grew.alloc w arr e
 have hrowone : ((List.range (m * n)).map fun k => z.getD (k % n) .un).all AV.one = true := by
  rw [List.all_eq_true]
  intro c hc
  obtain ⟨k, hk, rfl⟩ := List.mem_map.1 hc
  have hkn : k % n < z.length := by rw [hzl]; exact Nat.mod_lt _ hn0
  rw [xgD, xgE hkn]
  exact List.all_eq_true.1 (zeroA_one hz) _ (List.getElem_mem hkn)
 obtain ⟨F', f1, f2, hS', hgo⟩ := hS.varR hg ((List.range (m * n)).map fun k => z.getD (k % n) .un) (m * n) (by omega) (plainRow_spec (plainRow_one hrowone)).1 (by simp) (fun k c hk => by
  rw [List.getElem?_map] at hk
  obtain ⟨k', hk', rfl⟩ := xoM.1 hk
  have hkl := (xgI.1 hk').1
  simp at hkl
  have hkk : k' = k := by
   rw [List.getElem?_range hkl] at hk'
   injection hk' with hk'; exact hk'.symm
  subst hkk
  have hkn : k' % n < z.length := by rw [hzl]; exact Nat.mod_lt _ hn0
  have h4 := z4 (k' % n) _ (xgE hkn)
  rw [xgD, xgE hkn]
  have hzs : zv.cells.size = n := by rw [z2]; simp [z3, hzl]
  have ha : arr.getD k' undef = zarr.getD (k' % n) undef := by
   have hzk : k' % n < zarr.length := by rw [z3, hzl]; exact Nat.mod_lt _ hn0
   rw [harr]
   unfold Go.madeCells
   rw [xgD, xgD, Array.getElem?_toList, Array.getElem?_map, Array.getElem?_range, if_pos hkl, hzs, z2]
   simp [hzk]
  rw [ha]
  exact h4)
 refine ⟨_, _, F', L ++ [w.heap.size], hrun, ?_, hS', hgo⟩
 refine .mr _ 0 _ n m w.heap.size g ?_ (by omega) hn0 ?_ (by omega)
 ·rw [xgR (by rw [hS.len]; exact Nat.le_refl _), hS.len, Nat.sub_self]; rfl
 ·rw [f2, if_pos rfl]; omega
theorem bytesM_run (hS : St P F L NX w H) {s d e : TypeId} (h1 : P.underlying s = some (.slice e)) (he : P.underlying e = some (.int .u8)) (h2 : P.underlying d = some .string) {a : AV} {v : Value} {str : ByteArray} (ha : Rel F L a v) (h : bytesM H a = some str) :
  (convert s d v).run P w = .ok (.string str) w := by
 unfold bytesM at h
 split at h
 ·rename_i j off len
  cases ha with
  | mr _ _ _ _ cap B _ hB hcap hn0 hroom hxx =>
   split at h
   ·rename_i hl
    subst hl
    injection h with h; subst h
    rw [run_convert_bytes_string w s d e _ 0 cap h1 he h2]
    simp [Conv.bytesToString, loadCells, loadCellsFrom]
    rfl
   ·rename_i hl
    obtain ⟨cs, hj, h⟩ := xoB.1 h
    split at h
    ·rename_i hc
     obtain ⟨c2, c3⟩ := hc
     obtain ⟨ns, hns, rfl⟩ := bytesOfA_some h
     have hcne : cs ≠ [] := by intro he; rw [he] at c2; simp at c2; omega
     obtain ⟨arr, ta, m1, m2, m3, m4⟩ := hS.obj j cs B hj hcne c3 hB
     have hxl : ((cs.drop off).take len).length = len := by simp; omega
     have hnl : ns.length = len := by rw [← hxl, hns]; simp
     refine run_convert_bytes_arg w s e h1 he B off len cap ns hnl (fun i hi => ?_) d h2
     have hxi : ((cs.drop off).take len)[i]? = some (AV.v (.int .u8 ns[i])) := by
      rw [hns, List.getElem?_map, xgE (by omega)]; rfl
     rw [List.getElem?_take, if_pos (by omega), List.getElem?_drop] at hxi
     obtain ⟨e, _⟩ := (m4 _ _ hxi).v_eq
     rw [m1.cell, show ns.getD i 0 = ns[i] by simp [xgD, xgE (show i < ns.length by omega)], e]
     exact getD_get (by omega)
    ·cases h
 ·cases h
theorem plainV_spec {a : AV} {v : Value} (h : a.plainV = true) (hr : Rel F L a v) : a = .v v ∧ v.oneCell' = true := by
 unfold AV.plainV at h
 split at h
 ·obtain ⟨e, _⟩ := hr.v_eq
  rw [← e]; exact ⟨rfl, h⟩
 ·cases h
theorem buildM_run (hS : St P F L NX w H) {t : TypeId} {len : Nat} {ps : List (Nat × AV)} {qs : List (Nat × Value)} {r : AV} {H' : Heap} (hp : PartsRel F L ps qs) (h : buildM P H t len ps = some (r, H')) :
  ∃ u w' F' L', (Instr.buildSlice t len qs.toArray).run P w = .ok u w' ∧ Rel F' L' r u ∧ St P F' L' NX w' H' ∧ Goes (fun _ => False) F L w F' L' w' := by
 unfold buildM at h
 obtain ⟨r0, hb, h⟩ := xoB.1 h
 obtain ⟨e0, he0, h⟩ := xoB.1 h
 split at h
 ·rename_i hc
  obtain ⟨c1, c2, c3, c4⟩ := hc
  injection h with h; injection h with h1 h2; subst h1 h2
  obtain ⟨e, n, he, hn, hql, hrun⟩ := buildSliceA_alloc w hp hb
  have hall : ∀ (i : Nat) p q, ps[i]? = some p → qs[i]? = some q → p.2 = .v q.2 ∧ q.2.oneCell' = true := fun i p q h1 h2 => plainV_spec (List.all_eq_true.1 c4 p (List.mem_of_getElem? h1)) (hp.2 i p q h1 h2).2
  have hq1 : ∀ q ∈ qs, q.2.oneCell' = true := by
   intro q hq
   obtain ⟨i, hi⟩ := List.mem_iff_getElem?.1 hq
   have hil : i < ps.length := by rw [hp.1]; exact (xgI.1 hi).1
   exact (hall i _ q (xgE hil) hi).2
  have hflat : (qs.map (·.2)).flatMap (·.cells.toList) = qs.map (·.2) := by
   clear hrun hall c4 hql
   have : ∀ l : List (Nat × Value), (∀ q ∈ l, q.2.oneCell' = true) → (l.map (·.2)).flatMap (·.cells.toList) = l.map (·.2) := by
    intro l
    induction l with
    | nil => intro _; rfl
    | cons q l ih =>
     intro hl
     rw [List.map_cons, List.flatMap_cons, ih (fun x hx => hl x (List.mem_cons_of_mem _ hx))]
     have := hl q (by simp)
     rw [cells_one this]
     rfl
   exact this qs hq1
  rw [hflat] at hrun
  have hone : (ps.map (·.2)).all AV.one = true := by
   rw [List.all_eq_true]
   intro c hc
   obtain ⟨p, hp1, rfl⟩ := List.mem_map.1 hc
   have := List.all_eq_true.1 c4 p hp1
   unfold AV.plainV at this
   split at this
   ·rename_i x hx; rw [hx]; rfl
   ·cases this
  have hpl : ps.length = len := by rw [hp.1, hql]
  have hg := Grew.alloc w (qs.map (·.2)) e
  obtain ⟨F', f1, f2, hS', hgo⟩ := hS.varR hg (ps.map (·.2)) len (by simp [hql]) (plainRow_spec (plainRow_one hone)).1 (by simp [hpl]) (fun k c hk => by
   rw [List.getElem?_map] at hk
   obtain ⟨p, hp1, rfl⟩ := xoM.1 hk
   have hkl : k < qs.length := by rw [← hp.1]; exact (xgI.1 hp1).1
   have h4 := (hp.2 k p _ hp1 (xgE hkl)).2
   rw [xgD, List.getElem?_map, xgE hkl]
   exact h4)
  refine ⟨_, _, F', L ++ [w.heap.size], hrun, ?_, hS', hgo⟩
  refine .mr _ 0 _ 1 _ w.heap.size false ?_ (Nat.le_refl _) (by omega) ?_ ?_
  ·rw [xgR (by rw [hS.len]; exact Nat.le_refl _), hS.len, Nat.sub_self]; rfl
  ·rw [f2, if_pos rfl]; omega
  ·unfold buildSliceA at hb
   obtain ⟨e', he', hb⟩ := xoB.1 hb
   obtain ⟨n', hn', hb⟩ := xoB.1 hb
   split at hb
   ·rename_i hc
    have : len ≤ len * n' := Nat.le_mul_of_pos_right _ hc.1
    omega
   ·cases hb
 ·cases h
theorem freeze_end {w : World} {B : Nat} {arr : List Value} {t : TypeId} (h : Holds w B arr t) : Holds (w.freeze ⟨B, arr.length, none⟩ 1) B arr t ∧ (w.freeze ⟨B, arr.length, none⟩ 1).heap.size = w.heap.size ∧ (∀ b, b ≠ B → (w.freeze ⟨B, arr.length, none⟩ 1).heap[b]? = w.heap[b]?) := by
 obtain ⟨⟨lo, hi⟩, h1, h2⟩ := h
 unfold World.freeze
 rw [if_neg (by decide)]
 refine ⟨⟨if lo == hi then (arr.length, arr.length + 1) else (min lo arr.length, max hi (arr.length + 1)), ?_, ?_⟩, by simp, fun b hb => ?_⟩
 ·simp only [Array.getElem?_modify, if_pos, h1, Option.map_some]
 ·split
  ·exact .inl (Nat.le_refl _)
  ·rename_i hne
   rcases h2 with h2 | h2
   ·simp only at h2 ⊢; left; omega
   ·injection h2 with e1 e2; subst e1 e2; simp at hne
 ·simp only [Array.getElem?_modify]
  rw [if_neg (fun e => hb e.symm)]
theorem St.over (hS : St P F L NX w H) {j B : Nat} {cs cs' : List AV} (hj : H[j]? = some cs) (hne : cs ≠ []) (hpl : plainRow cs = true) (hpl' : plainRow cs' = true) (hB : L[j]? = some B) {w' : World} {arr' : List Value} {t : TypeId}
  (hsize : w'.heap.size = w.heap.size) (hold : ∀ b, b < w.heap.size → b ≠ B → w'.heap[b]? = w.heap[b]?) (hnew : Holds w' B arr' t) (hrest : w'.os = w.os ∧ w'.tape = w.tape ∧ w'.output = w.output)
  (hcr : cs'.length ≤ F.room B) (hroom : F.room B ≤ arr'.length) (hr : ∀ (k : Nat) c, cs'[k]? = some c → Rel F L c (arr'.getD k undef)) :
  St P F L NX w' (H.set j cs') ∧ Goes (fun _ => False) F L w F L w' := by
 have hl : cs'.length ≤ arr'.length := Nat.le_trans hcr hroom
 have hBL := mem_of_get hB
 have hjl : j < H.length := (xgI.1 hj).1
 have hgo : Goes (fun _ => False) F L w F L w' :=
  ⟨by omega, fun b hb _ hbL => ⟨hold b hb (fun e => hbL (e ▸ hBL)), fun i => rfl⟩, fun _ _ _ h => h, fun i b h => h, fun b hb => .inl hb, hrest, fun _ => Nat.le_refl _⟩
 have old : ∀ (j' : Nat) ds B', (H.set j cs')[j']? = some ds → L[j']? = some B' → (j' ≠ j ∧ H[j']? = some ds) ∨ (j' = j ∧ ds = cs' ∧ B' = B) := by
  intro j' ds B' h1 h3
  by_cases hjj : j' = j
  ·subst hjj
   rw [List.getElem?_set_self hjl] at h1
   rw [hB] at h3
   injection h1 with h1; injection h3 with h3
   exact .inr ⟨rfl, h1.symm, h3.symm⟩
  ·rw [List.getElem?_set_ne (fun e => hjj e.symm)] at h1
   exact .inl ⟨hjj, h1⟩
 have far : ∀ {j' : Nat} {ds : List AV} {B' : Nat}, j' ≠ j → H[j']? = some ds → ds ≠ [] → L[j']? = some B' → B' ≠ B := fun hjj h1 h2 h3 e => hjj (hS.inj _ _ _ _ B h1 h2 hj hne (e ▸ h3) hB)
 refine ⟨⟨fun b i v h => ?_, by simp [hS.len], fun j' ds B' h1 h2 hmv h3 => ?_, fun b hb => by rw [hsize]; exact hS.lt b hb, fun j' ds B' h1 h2 h3 i hi => ?_, hS.nox, fun i1 j1 c1 c2 B1 hi1 hn1 hj1 hn2 hb1 hb2 => ?_, fun b hb => (by simp [NX] at hb), fun b hb => hS.room0 b (by omega), fun j' ks vs B' h1 h3 => ?_, fun j' ds B' h1 hp h3 => ?_⟩, hgo⟩
 ·obtain ⟨m1, m2⟩ := hS.mem _ _ _ h
  refine ⟨?_, m2⟩
  by_cases hb : b = B
  ·subst hb
   rw [hS.nof j cs b hj hne hB i (by rw [(plainRow_spec hpl).2]; exact Nat.zero_le _)] at h
   cases h
  ·rw [cell?_same (hold b (hS.ltF h) hb)]; exact m1
 ·rcases old j' ds B' h1 h3 with ⟨k1, k2⟩ | ⟨rfl, rfl, rfl⟩
  ·obtain ⟨arr, t', m1, m2, m3, m4⟩ := hS.obj j' ds B' k2 h2 hmv h3
   exact ⟨arr, t', m1.same (hold B' (hS.ltL (mem_of_get h3)) (far k1 k2 h2 h3)), m2, m3, m4⟩
  ·exact ⟨arr', t, hnew, hl, hroom, hr⟩
 ·rcases old j' ds B' h1 h3 with ⟨k1, k2⟩ | ⟨rfl, rfl, rfl⟩
  ·exact hS.nof j' ds B' k2 h2 h3 i hi
  ·exact hS.nof j' cs B' hj hne hB i (by rw [(plainRow_spec hpl).2]; exact Nat.zero_le _)
 ·rcases old i1 c1 B1 hi1 hb1 with ⟨k1, k2⟩ | ⟨k1, k2, k3⟩ <;> rcases old j1 c2 B1 hj1 hb2 with ⟨m1, m2⟩ | ⟨m1, m2, m3⟩
  ·exact hS.inj i1 j1 c1 c2 B1 k2 hn1 m2 hn2 hb1 hb2
  ·exact absurd m3 (far k1 k2 hn1 hb1)
  ·exact absurd k3 (far m1 m2 hn2 hb2)
  ·omega
 ·rcases old j' _ B' h1 h3 with ⟨k1, k2⟩ | ⟨k1, k2, k3⟩
  ·exact (hS.mob j' ks vs B' k2 h3).goes hgo (hold B' (hS.ltL (mem_of_get h3)) (far k1 k2 (by simp) h3))
  ·rw [← k2] at hpl'; cases hpl'
 ·rcases old j' ds B' h1 h3 with ⟨k1, k2⟩ | ⟨rfl, rfl, rfl⟩
  ·exact hS.rm j' ds B' k2 hp h3
  ·exact hcr
theorem convM_run (hS : St P F L NX w H) {s d : TypeId} {xa : AV} {v : Value} {r : AV} {H' : Heap} (hx : Rel F L xa v) (h : convM P H s d xa = some (r, H')) :
  ∃ u w' F' L', (convert s d v).run P w = .ok u w' ∧ Rel F' L' r u ∧ St P F' L' NX w' H' ∧ Goes (fun _ => False) F L w F' L' w' := by
 unfold convM at h
 split at h
 ·rename_i el hs1 hd
  split at h
  ·rename_i y hs2
   split at h
   ·rename_i hle
    injection h with h; injection h with h1 h2; subst h1 h2
    obtain ⟨hv, _⟩ := hx.v_eq
    have hrun := Lib.run_convert_string_bytes (P := P) w s d el y hs1 hd hs2
    rw [hv] at hrun
    have hg : Grew w (Lib.bytesWorld w el y) (Lib.bytesCells w el y).toList el ((Lib.bytesCells w el y).size, (Lib.bytesCells w el y).size + 1) :=
     ⟨Lib.bytesWorld_size w el y, fun B hB => Lib.bytesWorld_at_old w el y B hB, by simpa using Lib.bytesWorld_at_new w el y, by
      have : Lib.bytesWorld w el y = (w.drew.alloc (.cells (Lib.bytesCells w el y) el)).freeze ⟨w.heap.size, (Lib.bytesCells w el y).size, none⟩ 1 := rfl
      rw [this]
      simp [World.freeze, World.alloc, World.drew, -World.alloc_eq, -World.drew_eq]⟩
    have hge := grownCap_ge w y.size 0 el
    have hpre : (Lib.bytesCells w el y).toList = (y.data.toList.map fun b => Value.int .u8 b.toNat) ++ (Array.replicate (grownCap w y.size 0 el - y.size) (Value.int .u8 0)).toList := by
     simp [Lib.bytesCells]
    have hsz : y.data.toList.length = y.size := by simp
    have hal : (Lib.bytesCells w el y).toList.length = grownCap w y.size 0 el := by
     rw [hpre, List.length_append, List.length_map, hsz]
     simp
     omega
    have hmv : isMv (y.data.toList.map byteA) = false := by
     cases hy : y.data.toList with
     | nil => rfl
     | cons b t => cases t <;> rfl
    obtain ⟨F', f1, f2, hS', hgo⟩ := hS.varR hg (y.data.toList.map byteA) (grownCap w y.size 0 el) (by omega) hmv (by rw [List.length_map, hsz]; omega) (fun k c hk => by
     rw [List.getElem?_map] at hk
     obtain ⟨b, hb, rfl⟩ := xoM.1 hk
     have hkl := (xgI.1 hb).1
     rw [hpre, xgD, xgL (by simpa using hkl), List.getElem?_map, hb]
     exact .sc _ rfl) (.inl (by simp))
    refine ⟨_, _, F', L ++ [w.heap.size], hrun, ?_, hS', hgo⟩
    refine .mr _ 0 _ 1 _ w.heap.size false ?_ hge (by omega) ?_ (grownCap_le_maxLen w _ _ _ (by unfold maxLen; omega))
    ·rw [xgR (by rw [hS.len]; exact Nat.le_refl _), hS.len, Nat.sub_self]; rfl
    ·rw [f2, if_pos rfl]; omega
   ·cases h
  ·cases h
 ·rename_i el hs1 hd
  split at h
  ·rename_i hs2
   obtain ⟨x, hx2, h⟩ := xoM.1 h
   injection h with h1 h2; subst h1 h2
   exact ⟨_, w, F, L, bytesM_run hS hs1 hs2 hd hx hx2, .sc _ rfl, hS, Goes.refl _ F L w⟩
  ·cases h
 ·rename_i el el' hs1 hd
  split at h
  ·rename_i j off len n g hs2
   obtain ⟨cs, hj, h⟩ := xoB.1 h
   split at h
   ·rename_i hc
    obtain ⟨hsd, hne, hpl⟩ := hc
    injection h with h; injection h with h1 h2; subst h1 h2 hsd
    cases hx with
    | mr _ _ _ _ cap B _ hB hcap hn0 hroom hx =>
     obtain ⟨arr, t, m1, m2, m3, m4⟩ := hS.obj j cs B hj hne (plainRow_spec hpl).1 hB
     obtain ⟨k1, k2, k3⟩ := freeze_end m1
     have hcs : cs.length ≤ F.room B := hS.rm j cs B hj hpl hB
     obtain ⟨hS', hgo⟩ := hS.over hj hne hpl hpl hB (w' := w.freeze ⟨B, arr.length, none⟩ 1) (arr' := arr) (t := t) k2 (fun b _ hb => k3 b hb) k1 (by unfold World.freeze; rw [if_neg (by decide)]; exact ⟨rfl, rfl, rfl⟩) hcs m3 m4
     have hset : H.set j cs = H := by
      apply List.ext_getElem?
      intro i
      by_cases hi : i = j
      ·subst hi; rw [List.getElem?_set_self (xgI.1 hj).1, hj]
      ·rw [List.getElem?_set_ne (fun e => hi e.symm)]
     rw [hset] at hS'
     have hd' : el' = el := by rw [hs1] at hd; injection hd with hd; injection hd with hd; exact hd.symm
     subst hd'
     have hsh : w.shape? B = some (t, arr.length) := by
      obtain ⟨fr, q1, q2⟩ := m1
      unfold World.shape?
      rw [q1]
      simp
     refine ⟨.slice (some ⟨B, off, none⟩) len cap, _, F, L, ?_, .mr j off len n cap B g hB hcap hn0 hroom hx, hS', hgo⟩
     simp [convert, run_underlying hs1, run_underlying hs2, markStringish, hsh]
   ·cases h
  ·cases h
 ·cases h
theorem sliceM_run (hS : St P F L NX w H) {ρ : Operand → Value} {e : Env} (hT : ∀ x, Rel F L (ev e x) (ρ x)) {t : TypeId} {p r : AV} {v : Value} {H' : Heap} {lo hi mx : Option Operand} (hp : Rel F L p v) (h : sliceM P H t p (lo.map (ev e)) (hi.map (ev e)) (mx.map (ev e)) = some (r, H')) :
  ∃ u, (Instr.sliceAt t v (lo.map ρ) (hi.map ρ) (mx.map ρ)).run P w = .ok u w ∧ Rel F L r u ∧ H' = H := by
 unfold sliceM at h
 obtain ⟨lo1, lo2⟩ := optRel hT lo
 obtain ⟨hi1, hi2⟩ := optRel hT hi
 have hmx : mx.map (ev e) = none → mx.map ρ = none := (optRel hT mx).2
 generalize lo.map (ev e) = lo' at *
 generalize hi.map (ev e) = hi' at *
 generalize mx.map (ev e) = mx' at *
 generalize lo.map ρ = vlo at *
 generalize hi.map ρ = vhi at *
 generalize mx.map ρ = vmx at *
 split at h
 ·rename_i len el j off hu
  obtain ⟨n, hn, h⟩ := xoB.1 h
  obtain ⟨g, hg, h⟩ := xoB.1 h
  obtain ⟨cs, hj, h⟩ := xoB.1 h
  split at h
  ·rename_i hc
   obtain ⟨c1, c2, c3, c4, _⟩ := hc
   obtain ⟨b, hb, h⟩ := xoB.1 h
   obtain ⟨a, ha, h⟩ := xoB.1 h
   injection h with h; injection h with h1 h2; subst h1 h2
   obtain ⟨r1, r2, r3⟩ := bound_run (P := P) (w := w) (code := .sliceAlen) hi1 hi2 hb (Nat.le_refl _)
   obtain ⟨q1, q2, q3⟩ := bound_run (P := P) (w := w) (code := .sliceB) lo1 lo2 ha (Nat.le_refl _)
   have hbl : b ≤ len := by
    by_cases h0 : hi' = none
    ·rw [r2 h0]; exact Nat.le_refl _
    ·exact r3 h0
   have hab : a ≤ b := by
    by_cases h0 : lo' = none
    ·rw [q2 h0]; exact Nat.zero_le _
    ·exact q3 h0
   rw [hmx rfl]
   have hb' : (Instr.sliceBounds false len len vlo vhi none).run P w = .ok (a, b, len) w := by
    unfold Instr.sliceBounds
    cases vhi <;> cases vlo <;> simp_all [bnd]
   cases hp with
   | ptr _ _ B hB =>
    have hrm := hS.rm j cs B hj c2 hB
    refine ⟨.slice (some (if len = a then ⟨B, off, none⟩ else (⟨B, off, none⟩ : Addr).add (a * n))) (b - a) (len - a), by simp [Instr.sliceAt, Instr.sureAddr, run_underlying hu, hb', sizeT_run hn], ?_, rfl⟩
    by_cases hal : a < len
    ·rw [if_pos hal, if_neg (by omega), add_at]
     refine .mr j _ _ n _ B g hB (by omega) c1 ?_ (by omega)
     have : a * n + (len - a) * n = len * n := by rw [← Nat.add_mul]; congr 1; omega
     omega
    ·rw [if_neg hal, show b - a = 0 by omega]
     exact .sl0 _ _ (fun h => by cases h)
  ·cases h
 ·cases h
theorem copyM_run (hS : St P F L NX w H) {t tx ty : TypeId} {xa xb : AV} {v y : Value} {r : AV} {H' : Heap} (hx : Rel F L xa v) (hy : Rel F L xb y) (h : copyM P H t tx xa xb = some (r, H')) :
  ∃ u w', (Builtin.copy_ #[t, tx] ty #[v, y]).run P w = .ok u w' ∧ Rel F L r u ∧ St P F L NX w' H' ∧ Goes (fun _ => False) F L w F L w' := by
 have sz : ∀ {el : TypeId}, sizeT P el = some 1 → (P.info? el).map (·.size) = some 1 := fun h => h
 unfold copyM at h
 split at h
 ·rename_i el el' ys hu hu'
  split at h
  ·rename_i hc
   injection h with h; injection h with h1 h2; subst h1 h2
   obtain ⟨ad, cap, news, rfl, _⟩ := hy.row hS hc.2
   obtain ⟨a0, c0, rfl⟩ : ∃ a0 c0, v = .slice a0 0 c0 := by
    cases hx with
    | sl0 a cap h => exact ⟨a, cap, rfl⟩
    | sl _ _ _ _ _ _ _ hl h0 => simp at hl; omega
   exact ⟨_, w, run_copy_none w t tx ty el a0 ad 0 c0 ys.length cap hu (sz hc.1) (Nat.min_zero _), .sc _ rfl, hS, Goes.refl _ F L w⟩
  ·cases h
 ·rename_i el el' j off len ys hu hu'
  split at h
  ·rename_i hc
   obtain ⟨hsz, hys⟩ := hc
   obtain ⟨ad, cap, news, rfl, hcap, hnone, hrow, hone, hF⟩ := hy.row hS (fun a ha => (hys a ha).1)
   have hnl : news.length = ys.length := by have := hrow.len; omega
   cases hx with
   | mr _ _ _ _ cap' B _ hB hcap' hn0 hroom hxx =>
    split at h
    ·rename_i h0
     injection h with h; injection h with h1 h2; subst h1 h2
     refine ⟨_, w, run_copy_none w t tx ty el _ ad len cap' ys.length cap hu (sz hsz) ?_, .sc _ rfl, hS, Goes.refl _ F L w⟩
     rcases h0 with h0 | h0 <;> rw [h0]
     ·exact Nat.zero_min _
     ·exact Nat.min_zero _
    ·rename_i h0
     obtain ⟨cs, hj, h⟩ := xoB.1 h
     split at h
     ·rename_i hc
      obtain ⟨c1, c2⟩ := hc
      injection h with h; injection h with h1 h2; subst h1 h2
      have hpl := plainRow_one c2
      have hcne : cs ≠ [] := fun e => by rw [e] at c1; simp at c1; omega
      obtain ⟨arr, ta, m1, m2, m3, m4⟩ := hS.obj j cs B hj hcne (plainRow_spec hpl).1 hB
      obtain ⟨fr, m0, hfr⟩ := id m1
      obtain ⟨Bs, os, rfl, hf⟩ := hF (by intro he; rw [he] at hnl; simp at hnl; omega)
      obtain ⟨ns, hns⟩ : ∃ ns : List Value, ns = news.take len := ⟨_, rfl⟩
      have hnsl : ns.length = Nat.min ys.length len := by rw [hns, List.length_take, hnl]; exact Nat.min_comm _ _
      have hnsg : ∀ k, k < ns.length → ns[k]? = news[k]? := fun k hk => by
       rw [hns, List.getElem?_take, if_pos]
       have := Nat.min_le_right ys.length len
       have h2 : Nat.min ys.length len = min ys.length len := rfl
       omega
      have hmin : Nat.min ys.length len = min ys.length len := rfl
      have hrun := run_copy_cells w t tx ty el B off len cap' ⟨Bs, os, none⟩ ys.length cap ns hu (sz hsz) hnsl (fun k u hk => by
        have hkl := (xgI.1 hk).1
        rw [hnsg k hkl] at hk
        rw [add_at]
        exact (hS.mem _ _ _ (hf k u hk)).1)
       (fun k hk => by rw [m1.cell, xgE (by omega)]; rfl) (fun k hk => m1.soft (by omega)) (fun u hu => hone u (by rw [hns] at hu; exact List.mem_of_mem_take hu))
      obtain ⟨arr', p1, p2, p3⟩ := setCells_row B ns off w arr ta m0 (by omega)
      have hfl : ((ys.take len).flatMap AV.cells).length = min ys.length len := by
       have := flat_length (n := 1) (ys.take len) (fun a ha => (hys a (List.mem_of_mem_take ha)).1)
       rw [this, List.length_take]; omega
      have hflat := row_flat hrow (by omega : 0 < 1)
      have htk : ∀ (k : Nat) c, ((ys.take len).flatMap AV.cells)[k]? = some c → Rel F L c (ns.getD k undef) := by
       intro k c hk
       have hkl : k < min ys.length len := hfl ▸ (xgI.1 hk).1
       rw [xgD, hnsg k (by omega), ← xgD]
       refine hflat k c ?_
       rw [← List.take_append_drop len ys, List.flatMap_append, xgL (by omega)]
       exact hk
      have hall : (cs.take off ++ (ys.take len).flatMap AV.cells ++ cs.drop (off + min ys.length len)).all AV.one = true := by
       have h1 := List.all_eq_true.1 c2
       rw [List.all_append, List.all_append, Bool.and_eq_true, Bool.and_eq_true]
       refine ⟨⟨List.all_eq_true.2 fun c hc => h1 c (List.mem_of_mem_take hc), List.all_eq_true.2 fun c hc => ?_⟩, List.all_eq_true.2 fun c hc => h1 c (List.mem_of_mem_drop hc)⟩
       obtain ⟨a, ha, hca⟩ := List.mem_flatMap.1 hc
       exact List.all_eq_true.1 (hys a (List.mem_of_mem_take ha)).2 c hca
      have hcl : (cs.take off ++ (ys.take len).flatMap AV.cells ++ cs.drop (off + min ys.length len)).length = cs.length := by
       rw [List.length_append, List.length_append, hfl]
       simp only [List.length_take, List.length_drop]
       omega
      obtain ⟨hS', hgo⟩ := hS.over hj hcne hpl (plainRow_one hall) hB (setCells_size B ns off w) (fun b hb hne => World.heap_setCells_other w B off ns hb hne) (t := ta) (arr' := arr') ⟨fr, p1, by rw [p2]; exact hfr⟩
       ⟨World.os_setCells w B off ns, setCells_tape B ns off w, World.output_setCells w B off ns⟩ (by rw [hcl]; exact hS.rm j cs B hj hpl hB) (by rw [p2]; exact m3) (fun k c hk => by
        have htl : (cs.take off).length = off := by simp; omega
        rw [xgD, p3]
        rw [List.append_assoc] at hk
        by_cases hk1 : k < off
        ·rw [xgL (by omega), List.getElem?_take, if_pos hk1] at hk
         rw [if_neg (by omega), ← xgD]
         exact m4 k c hk
        ·rw [xgR (by omega), htl] at hk
         by_cases hk2 : k < off + min ys.length len
         ·rw [xgL (by omega)] at hk
          rw [if_pos (by omega), ← xgD]
          exact htk _ c hk
         ·rw [xgR (by omega), hfl, List.getElem?_drop, show off + min ys.length len + (k - off - min ys.length len) = k by omega] at hk
          rw [if_neg (by omega), ← xgD]
          exact m4 k c hk)
      refine ⟨_, _, hrun, ?_, hS', hgo⟩
      rw [hnsl]
      exact .sc _ rfl
     ·cases h
  ·cases h
 ·cases h
theorem muA_run (hS : St P F L NX w H) {o : Oper} {ρ : Operand → Value} (hT : ∀ x, Rel F L (ev e x) (ρ x)) (hc : ∀ v, ρ (.const v) = v) {r : AV} {H' : Heap} (h : muA P e H o.op = some (r, H')) :
  ∃ u w' F' L', (execOp ρ o).run P w = .ok (.value u) w' ∧ Rel F' L' r u ∧ St P F' L' NX w' H' ∧ Goes (fun _ => False) F L w F' L' w' := by
 obtain ⟨dst, op, type, pos, after, guard⟩ := o
 simp only at h ⊢
 unfold muA at h
 split at h
 ·split at h
  ·rename_i hnv
   have hnx := isNilV_spec hnv
   subst hnx
   injection h with h; injection h with h1 h2; subst h1 h2
   exact ⟨.slice none 0 0, w, F, L, by simp [execOp, hc], .sc _ rfl, hS, Goes.refl _ F L w⟩
  ·cases h
 ·rename_i s
  have hs := hT (.tmp s)
  simp only [ev] at hs
  split at h
  ·rename_i j off len n g hes
   rw [hes] at hs
   obtain ⟨cs, hj, h⟩ := xoB.1 h
   split at h
   ·rename_i hcond
    obtain ⟨c1, c2, c3, c4⟩ := hcond
    injection h with h; injection h with h1 h2; subst h1 h2
    generalize hv : ρ (.tmp s) = v at hs
    cases hs with
    | mr _ _ _ _ cap B _ hB hcap hn0 hroom hx =>
     have hln : 0 < len * n := Nat.mul_pos c2 hn0
     have hne : cs ≠ [] := fun e => by rw [e] at c3; simp at c3; omega
     obtain ⟨F', arr, f1, f2, f3, hS', hgo⟩ := hS.freeze hj hne hB c4
     have hone' : ∀ c ∈ cs, c.one = true := List.all_eq_true.1 c4
     refine ⟨.slice (some ⟨B, off, none⟩) len cap, w, F', L, by simp [execOp, hv], ?_, hS', hgo⟩
     have hget : ∀ i, i < len * n → ((arr.drop off).take (len * n))[i]? = some (arr.getD (off + i) undef) := by
      intro i hi
      rw [List.getElem?_take, if_pos hi, List.getElem?_drop]
      exact getD_get (by omega)
     have hnl : ((arr.drop off).take (len * n)).length = len * n := by simp; omega
     have hrow : Row F' L n (chunk g n len (cs.drop off)) ((arr.drop off).take (len * n)) := by
      refine ⟨by rw [hnl, chunk_len], fun i e hi => (chunk_cells c1 (by simp; omega) (fun c hc => hone' c (List.mem_of_mem_drop hc)) hi).1, fun i e k c hi hk => ?_⟩
      obtain ⟨h5, h6⟩ := chunk_cells (k := len) c1 (by simp; omega) (fun c hc => hone' c (List.mem_of_mem_drop hc)) hi
      have hkn : k < n := h5 ▸ (xgI.1 hk).1
      have hil : i < len := by
       have := (xgI.1 hi).1
       rwa [chunk_len] at this
      rw [h6 k hkn, List.getElem?_drop] at hk
      rw [xgD, hget _ (idx_lt hil hkn)]
      exact f3 _ c hk
     have := Rel.mk (B := B) (o := off) (cap := cap) hrow hn0 (by rw [chunk_len]; exact hcap) (fun i u hu => by
      have hil : i < len * n := hnl ▸ (xgI.1 hu).1
      rw [hget i hil] at hu
      rw [f2, getD_get (by omega)]
      exact hu)
     rwa [chunk_len] at this
   ·cases h
  ·rename_i hes
   split at h
   ·rename_i hnv
    have hnx := isNilV_spec hnv
    subst hnx
    rw [hes] at hs
    injection h with h; injection h with h1 h2; subst h1 h2
    have hv := nil_val hs
    exact ⟨.slice none 0 0, w, F, L, by simp [execOp, hv], .sl0 none 0 (fun _ => rfl), hS, Goes.refl _ F L w⟩
   ·cases h
  ·rename_i xs j hes
   injection h with h; injection h with h1 h2; subst h1 h2
   rw [hes] at hs
   exact ⟨ρ (.tmp s), w, F, L, by simp [execOp], hs.owA, hS, Goes.refl _ F L w⟩
  ·rename_i xs hes
   injection h with h; injection h with h1 h2; subst h1 h2
   rw [hes] at hs
   exact ⟨ρ (.tmp s), w, F, L, by simp [execOp], hs, hS, Goes.refl _ F L w⟩
  ·cases h
 ·rename_i args ts
  split at h
  ·rename_i x y t u hargs hts
   have e1 : args = #[x, y] := by obtain ⟨l⟩ := args; simp at hargs; subst hargs; rfl
   have e2 : ts = #[t, u] := by obtain ⟨l⟩ := ts; simp at hts; subst hts; rfl
   subst e1 e2
   obtain ⟨v, w', F', L', h1, h2, h3, h4⟩ := appendM_run (ty := type) hS (hT x) (hT y) h
   refine ⟨v, w', F', L', ?_, h2, h3, h4⟩
   unfold execOp
   simp only [resolve, invoke, builtin, Sem.run_bind, Sem.run_pure, Result.andThen_ok, List.map_toArray, List.map_cons, List.map_nil, h1]
  ·cases h
 ·rename_i t l c
  obtain ⟨v, w', F', L', h1, h2, h3, h4⟩ := makeA_run hS (hT l) (hT c) h
  exact ⟨v, w', F', L', by simp [execOp, h1], h2, h3, h4⟩
 ·rename_i s d x
  obtain ⟨v, w', F', L', h1, h2, h3, h4⟩ := convM_run hS (hT x) h
  exact ⟨v, w', F', L', by simp [execOp, h1], h2, h3, h4⟩
 ·rename_i t len ps
  obtain ⟨v, w', F', L', h1, h2, h3, h4⟩ := buildM_run hS (partsRel hT ps) h
  refine ⟨v, w', F', L', ?_, h2, h3, h4⟩
  have hps : (ps.map fun p => (p.1, ρ p.2)) = (ps.toList.map fun p => (p.1, ρ p.2)).toArray := by apply Array.ext'; simp
  simp [execOp]; rw [hps]; simp [h1]
 ·rename_i t x lo hi mx
  obtain ⟨u, h1, h2, rfl⟩ := sliceM_run hS hT (hT x) h
  exact ⟨u, w, F, L, by simp [execOp, h1], h2, hS, Goes.refl _ F L w⟩
 ·rename_i args ts
  split at h
  ·rename_i x y t u hargs hts
   have e1 : args = #[x, y] := by obtain ⟨l⟩ := args; simp at hargs; subst hargs; rfl
   have e2 : ts = #[t, u] := by obtain ⟨l⟩ := ts; simp at hts; subst hts; rfl
   subst e1 e2
   obtain ⟨v, w', h1, h2, h3, h4⟩ := copyM_run (ty := type) hS (hT x) (hT y).owA h
   refine ⟨v, w', F, L, ?_, h2, h3, h4⟩
   unfold execOp
   simp only [resolve, invoke, builtin, Sem.run_bind, Sem.run_pure, Result.andThen_ok, List.map_toArray, List.map_cons, List.map_nil, h1]
  ·cases h
 ·cases h
theorem mu_ok (hI : Inv P G F0 L0 w0 N O e H F L a w) (hA : AliasOK A a) {o : Oper} {r : AV} {H' : Heap} (h : muA P e H o.op = some (r, H')) (hd : ∀ d', o.dst = some d' → d' < N)
  {next : Act → World → Prop} {Q : Exit → Act → World → Prop}
  (hn : ∀ F' L' u w', Inv P G F0 L0 w0 N (killO o.dst O) (put e o.dst r) H' F' L' (a.put o.dst u) w' → AliasOK (killA o.dst A) (a.put o.dst u) → next (a.put o.dst u) w') : o.wp P a w next Q := by
 obtain ⟨u, w', F', L', h1, h2, h3, h4⟩ := muA_run (o := o) (ρ := a.eval) hI.st hI.ev (fun v => rfl) h
 unfold Oper.wp
 rw [h1]
 have := hI.step (O1 := O) (new := []) (u := u) (r := r) hd h3 h4 h2 (fun B hB hg => hg.elim) (fun p hp => hp) (fun p hp B hB hg => hg) (by simp) (by simp) (by simp)
 exact hn F' L' u w' (by simpa using this) (hA.kill (fun d' he => Nat.lt_of_lt_of_le (hd d' he) hI.size) u)
end
end Go.Lv
set_option linter.unusedVariables false
set_option linter.unusedSimpArgs false
namespace Go.Lv
section
variable {P : Program} {C : Cfg} {G : Nat → Prop} {F0 : Facts} {L0 : List Nat} {w0 : World} {N : Nat} {O O' : OSet} {A A' : List (Nat × Nat)} {e : Env} {H : Heap} {F : Facts} {L : List Nat} {a : Act} {w : World}
theorem St.dead (hS : St P F L NX w H) (j : Nat) : St P F L NX w (H.set j []) :=
 ⟨hS.mem, by simp [hS.len], fun j' cs' B' hj' hne' hmv' hB' => hS.obj j' cs' B' (set_live hj' hne').2 hne' hmv' hB', hS.lt, fun j' cs' B' hj' hne' hB' => hS.nof j' cs' B' (set_live hj' hne').2 hne' hB', hS.nox,
  fun i1 j1 c1 c2 B1 hi1 hn1 hj1 hn2 hb1 hb2 => hS.inj i1 j1 c1 c2 B1 (set_live hi1 hn1).2 hn1 (set_live hj1 hn2).2 hn2 hb1 hb2, hS.xlt, hS.room0,
  fun j' ks vs B' hj' hB' => hS.mob j' ks vs B' (set_live hj' (by simp)).2 hB', fun j' cs' B' hj' hpl' hB' => by
   by_cases hne' : cs' = []
   ·rw [hne']; exact Nat.zero_le _
   ·exact hS.rm j' cs' B' (set_live hj' hne').2 hpl' hB'⟩
theorem St.addTk (hS : St P F L NX w H) {B lo r : Nat} {arr : List Value} {t : TypeId} (hw : w.heap[B]? = some (.cells arr.toArray t (0, 0))) (hB : B ∉ L) (hr : r ≤ arr.length) (hr0 : F.room B = 0) (h1 : 1 ≤ arr.length) (hf : ∀ i, lo ≤ i → F B i = none)
  {Fx : Facts} {Lx : List Nat} {wx : World} (hgo : Goes (fun _ => False) Fx Lx wx F L w) (hBx : wx.heap.size ≤ B) :
  ∃ F' : Facts, F'.get = F.get ∧ F'.room B = r ∧ St P F' (L ++ [B]) NX w (H ++ [[.tk lo]]) ∧ Goes (fun _ => False) Fx Lx wx F' (L ++ [B]) w := by
 obtain ⟨F', hFg, hFr⟩ : ∃ F' : Facts, F'.get = F.get ∧ ∀ b, F'.room b = if b = B then r else F.room b := ⟨⟨F.get, fun b => if b = B then r else F.room b⟩, rfl, fun _ => rfl⟩
 have hget : ∀ b i, F' b i = F b i := fun b i => by rw [hFg]
 have hBlt : B < w.heap.size := (Array.getElem?_eq_some_iff.1 hw).1
 have hrm : ∀ b, F.room b ≤ F'.room b := by
  intro b
  rw [hFr]
  split
  ·rename_i h; subst h; omega
  ·exact Nat.le_refl _
 have hpre : ∀ (j b : Nat), L[j]? = some b → (L ++ [B])[j]? = some b := by
  intro j b h
  rw [xgL (xgI.1 h).1]
  exact h
 have hmono : ∀ {a v}, Rel F L a v → Rel F' (L ++ [B]) a v := fun h => h.mono (fun b i v h => by rw [hget]; exact h) hrm hpre
 have hgo' : Goes (fun _ => False) Fx Lx wx F' (L ++ [B]) w :=
  ⟨hgo.size, fun b hb hg hL => ⟨(hgo.keep b hb hg hL).1, fun i => by rw [hget]; exact (hgo.keep b hb hg hL).2 i⟩, fun b i v h => by rw [hget]; exact hgo.mono _ _ _ h, fun j b h => hpre _ _ (hgo.pre _ _ h),
   fun b hb => by
    rcases List.mem_append.1 hb with h | h
    ·exact hgo.newL b h
    ·simp at h; subst h; exact .inr hBx, hgo.rest, fun b => Nat.le_trans (hgo.room b) (hrm b)⟩
 have old : ∀ (j : Nat) cs' b, (H ++ [[.tk lo]])[j]? = some cs' → (L ++ [B])[j]? = some b → (H[j]? = some cs' ∧ L[j]? = some b ∧ b ≠ B) ∨ (j = L.length ∧ cs' = [.tk lo] ∧ b = B) := by
  intro j cs' b hj hb
  rcases Nat.lt_or_ge j L.length with hjl | hjl
  ·rw [xgL hjl] at hb
   rw [xgL (hS.len ▸ hjl)] at hj
   exact .inl ⟨hj, hb, fun e => hB (e ▸ mem_of_get hb)⟩
  ·rw [xgR hjl] at hb
   rw [xgR (hS.len ▸ hjl)] at hj
   have h0 : j - L.length = 0 := by
    have := (xgI.1 hb).1
    simp at this
    omega
   rw [h0] at hb
   rw [← hS.len, h0] at hj
   simp at hb hj
   exact .inr ⟨by omega, hj.symm, hb.symm⟩
 refine ⟨F', hFg, by rw [hFr, if_pos rfl], ⟨fun b i v h => ?_, by simp [hS.len], fun j cs' b hj hne hmv hb => ?_, fun b hb => ?_, fun j cs' b hj hne hb i hi => ?_, fun b hb => by simp [NX], fun i j cs1 cs2 b hi hn1 hj hn2 hBi hBj => ?_, fun b hb => by simp [NX] at hb, fun b hb => ?_, fun j ks vs b hj hb => ?_, fun j cs' b hj hpl' hb => by
  rcases old j cs' b hj hb with ⟨k1, k2, k3⟩ | ⟨k1, rfl, rfl⟩
  ·exact Nat.le_trans (hS.rm j cs' b k1 hpl' k2) (hrm b)
  ·cases hpl'⟩, hgo'⟩
 ·rw [hget] at h; exact hS.mem _ _ _ h
 ·rcases old j cs' b hj hb with ⟨k1, k2, k3⟩ | ⟨k1, rfl, rfl⟩
  ·obtain ⟨arr', t', m1, m2, m3, m4⟩ := hS.obj j cs' b k1 hne hmv k2
   exact ⟨arr', t', m1, m2, by rw [hFr, if_neg k3]; exact m3, fun k c hk => hmono (m4 k c hk)⟩
  ·exact ⟨arr, t, .new hw, by simpa using h1, by rw [hFr, if_pos rfl]; exact hr, fun k c hk => by
    have : c = .tk lo := by
     cases k with
     | zero => simpa using hk.symm
     | succ k => simp at hk
    subst this; exact .tk _ _⟩
 ·rcases List.mem_append.1 hb with h | h
  ·exact hS.lt b h
  ·simp at h; subst h; exact hBlt
 ·rw [hget]
  rcases old j cs' b hj hb with ⟨k1, k2, k3⟩ | ⟨k1, rfl, rfl⟩
  ·exact hS.nof j cs' b k1 hne k2 i hi
  ·exact hf i hi
 ·rcases old i cs1 b hi hBi with ⟨k1, k2, k3⟩ | ⟨k1, k2, k3⟩ <;> rcases old j cs2 b hj hBj with ⟨m1, m2, m3⟩ | ⟨m1, m2, m3⟩
  ·exact hS.inj i j cs1 cs2 b k1 hn1 m1 hn2 k2 m2
  ·exact absurd m3 k3
  ·exact absurd k3 m3
  ·omega
 ·rw [hFr, if_neg (by omega)]
  exact hS.room0 b hb
 ·rcases old j _ b hj hb with ⟨k1, k2, k3⟩ | ⟨k1, k2, k3⟩
  ·obtain ⟨es, fs, clk, m1, mst, mpm, m2, m3, m4, m5⟩ := hS.mob j ks vs b k1 k2
   refine ⟨es, fs, clk, m1, mst, mpm, m2, m3, fun i k hk => ?_, fun i v hv => ?_⟩
   ·obtain ⟨e, he, hr⟩ := m4 i k hk
    exact ⟨e, he, hmono hr⟩
   ·obtain ⟨e, he, hr⟩ := m5 i v hv
    exact ⟨e, he, hmono hr⟩
  ·cases k2
theorem St.tkIn (hS : St P F L NX w H) {j B lo : Nat} (hj : H[j]? = some [.tk lo]) (hB : L[j]? = some B) {news : List Value} (hn1 : ∀ u ∈ news, u.oneCell' = true) {arr : List Value} {t : TypeId} (hw' : Holds w B arr t)
  (hfit : lo + news.length ≤ arr.length) (hroom : F.room B ≤ arr.length) :
  ∃ F' : Facts, F'.room = F.room ∧ (∀ b i, F' b i = if b = B ∧ lo ≤ i ∧ i < lo + news.length then news[i - lo]? else F b i) ∧ St P F' (L ++ [B]) NX (w.setCells B lo news) (H.set j [] ++ [[.tk (lo + news.length)]]) ∧ Goes (fun _ => False) F L w F' (L ++ [B]) (w.setCells B lo news) := by
 obtain ⟨F', hFr, hF'⟩ : ∃ F' : Facts, F'.room = F.room ∧ ∀ b i, F' b i = if b = B ∧ lo ≤ i ∧ i < lo + news.length then news[i - lo]? else F b i := ⟨⟨fun b i => if b = B ∧ lo ≤ i ∧ i < lo + news.length then news[i - lo]? else F b i, F.room⟩, rfl, fun _ _ => rfl⟩
 have hBL := mem_of_get hB
 have hne : ([AV.tk lo] : List AV) ≠ [] := by simp
 have hsize : (w.setCells B lo news).heap.size = w.heap.size := setCells_size B news lo w
 have hother : ∀ i, i < w.heap.size → i ≠ B → (w.setCells B lo news).heap[i]? = w.heap[i]? := fun i hi hne => World.heap_setCells_other w B lo news hi hne
 obtain ⟨fr, hw, hfr⟩ := hw'
 obtain ⟨arr', k1, k2, k3⟩ := setCells_row B news lo w arr t hw hfit
 have hmono : ∀ b i v, F b i = some v → F' b i = some v := by
  intro b i v h
  rw [hF']
  split
  ·rename_i hh
   obtain ⟨rfl, h2, h3⟩ := hh
   rw [hS.nof j _ b hj hne hB i h2] at h
   cases h
  ·exact h
 have hgo : Goes (fun _ => False) F L w F' (L ++ [B]) (w.setCells B lo news) := by
  refine ⟨by omega, fun b hb _ hbL => ⟨hother b hb (fun e => hbL (e ▸ hBL)), fun i => by rw [hF', if_neg (by rintro ⟨rfl, _⟩; exact hbL hBL)]⟩, hmono, fun i b h => ?_, fun b hb => ?_,
   ⟨World.os_setCells w B lo news, setCells_tape B news lo w, World.output_setCells w B lo news⟩, fun b => by rw [hFr]; exact Nat.le_refl _⟩
  ·rw [xgL (xgI.1 h).1]; exact h
  ·rcases List.mem_append.1 hb with h | h
   ·exact .inl h
   ·simp at h; subst h; exact .inl hBL
 have old : ∀ (j' : Nat) ds B', (H.set j [] ++ [[.tk (lo + news.length)]])[j']? = some ds → ds ≠ [] → (L ++ [B])[j']? = some B' → (H[j']? = some ds ∧ L[j']? = some B' ∧ B' ≠ B) ∨ (j' = L.length ∧ ds = [.tk (lo + news.length)] ∧ B' = B) := by
  intro j' ds B' h1 h2 h3
  have hlen : (H.set j []).length = L.length := by simp [hS.len]
  rcases Nat.lt_or_ge j' L.length with hl | hl
  ·rw [xgL hl] at h3
   rw [xgL (hlen ▸ hl)] at h1
   obtain ⟨k1, k2⟩ := set_live h1 h2
   exact .inl ⟨k2, h3, fun e => k1 (hS.inj j' j ds _ B k2 h2 hj hne (e ▸ h3) hB)⟩
  ·rw [xgR hl] at h3
   rw [xgR (hlen ▸ hl), hlen] at h1
   have h0 : j' - L.length = 0 := by
    have := (xgI.1 h3).1
    simp at this
    omega
   rw [h0] at h1 h3
   simp at h1 h3
   exact .inr ⟨by omega, h1.symm, h3.symm⟩
 refine ⟨F', hFr, hF', ⟨fun b i v h => ?_, by simp [hS.len], fun j' ds B' h1 h2 hmv h3 => ?_, fun b hb => ?_, fun j' ds B' h1 h2 h3 i hi => ?_, fun b hb => by simp [NX], fun i1 j1 c1 c2 B1 hi1 hn1' hj1 hn2 hb1 hb2 => ?_, fun b hb => (by simp [NX] at hb), fun b hb => by rw [hFr]; exact hS.room0 b (by omega), fun j' ks vs B' h1 h3 => ?_, fun j' ds B' h1 hpl' h3 => by
  by_cases h2 : ds = []
  ·rw [h2]; exact Nat.zero_le _
  ·rcases old j' ds B' h1 h2 h3 with ⟨k1, k2, k3⟩ | ⟨k1, rfl, rfl⟩
   ·rw [hFr]; exact hS.rm j' ds B' k1 hpl' k2
   ·cases hpl'⟩, hgo⟩
 ·rw [hF'] at h
  split at h
  ·rename_i hh
   obtain ⟨rfl, h2, h3⟩ := hh
   have hlt : i - lo < news.length := by omega
   rw [xgE hlt] at h
   injection h with h
   subst h
   refine ⟨?_, hn1 _ (List.getElem_mem hlt)⟩
   rw [cell?_eq k1, k3, if_pos ⟨h2, h3⟩, xgE hlt]
  ·rename_i hh
   obtain ⟨m1, m2⟩ := hS.mem _ _ _ h
   refine ⟨?_, m2⟩
   by_cases hb : b = B
   ·subst hb
    rw [cell?_eq k1, k3, if_neg (fun h => hh ⟨rfl, h⟩), ← cell?_eq hw]; exact m1
   ·rw [cell?_same (hother b (hS.ltF h) hb)]; exact m1
 ·rcases old j' ds B' h1 h2 h3 with ⟨m1, m2, m3⟩ | ⟨m1, rfl, rfl⟩
  ·obtain ⟨arr2, t', n1, n2, n3, n4⟩ := hS.obj j' ds B' m1 h2 hmv m2
   exact ⟨arr2, t', n1.same (hother B' (hS.ltL (mem_of_get m2)) m3), n2, by rw [hFr]; exact n3, fun k c hk => (n4 k c hk).goes hgo⟩
  ·obtain ⟨arr2, t', n1, n2, n3, n4⟩ := hS.obj j _ B' hj hne rfl hB
   refine ⟨arr', t, ⟨fr, k1, by rw [k2]; exact hfr⟩, ?_, by rw [hFr, k2]; exact hroom, fun k c hk => ?_⟩
   ·have : arr2 = arr := n1.inj ⟨fr, hw, hfr⟩
    subst this
    simp at n2 ⊢; omega
   ·have : c = .tk (lo + news.length) := by
     cases k with
     | zero => simpa using hk.symm
     | succ k => simp at hk
    subst this; exact .tk _ _
 ·rw [hsize]
  rcases List.mem_append.1 hb with h | h
  ·exact hS.lt b h
  ·simp at h; subst h; exact hS.lt _ hBL
 ·rcases old j' ds B' h1 h2 h3 with ⟨m1, m2, m3⟩ | ⟨m1, rfl, rfl⟩
  ·rw [hF', if_neg (fun h => m3 h.1)]
   exact hS.nof j' ds B' m1 h2 m2 i hi
  ·simp only [tkLo] at hi
   rw [hF', if_neg (fun h => by omega)]
   exact hS.nof j _ B' hj hne hB i (by simp only [tkLo]; omega)
 ·rcases old i1 c1 B1 hi1 hn1' hb1 with ⟨k1, k2, k3⟩ | ⟨k1, k2, k3⟩ <;> rcases old j1 c2 B1 hj1 hn2 hb2 with ⟨m1, m2, m3⟩ | ⟨m1, m2, m3⟩
  ·exact hS.inj i1 j1 c1 c2 B1 k1 hn1' m1 hn2 k2 m2
  ·exact absurd m3 k3
  ·exact absurd k3 m3
  ·omega
 ·rcases old j' _ B' h1 (by simp) h3 with ⟨k1, k2, k3⟩ | ⟨k1, k2, k3⟩
  ·exact (hS.mob j' ks vs B' k1 k2).goes hgo (hother B' (hS.ltL (mem_of_get k2)) k3)
  ·cases k2
theorem Rel.owRow {n : Nat} {xs : List AV} {j : Nat} {v : Value} (h : Rel F L (.ow xs j) v) (hx0 : 0 < xs.length) (hn : ∀ a ∈ xs, a.cells.length = n) : ∃ B cap, v = .slice (some ⟨B, 0, none⟩) xs.length cap ∧ L[j]? = some B ∧ 0 < xs.length ∧ xs.length ≤ cap ∧ cap * n ≤ F.room B ∧ cap ≤ 9223372036854775807 := by
 cases h with
 | ow _ _ B len cap sz vals h hl h0 hc hs hnn hf hr hm hx =>
  have hsz : sz = n := by
   have h0' : 0 < xs.length := by omega
   have e1 := hnn 0 _ (xgE h0')
   have e2 := hn _ (List.getElem_mem h0')
   omega
  subst hsz
  exact ⟨B, cap, by rw [hl], h, by omega, by omega, hm, hx⟩
 | ow0 => simp at hx0
theorem Rel.mkOw {n B j cap : Nat} {xs : List AV} {vs : List Value} (hr : Row F L n xs vs) (hn : 0 < n) (h0 : 0 < xs.length) (hc : xs.length ≤ cap) (hF : ∀ (j : Nat) u, vs[j]? = some u → F B j = some u) (hB : L[j]? = some B) (hm : cap * n ≤ F.room B) (hx : cap ≤ 9223372036854775807) :
  Rel F L (.ow xs j) (.slice (some ⟨B, 0, none⟩) xs.length cap) := by
 have := Rel.mk (B := B) (o := 0) hr hn hc (fun j u hu => by rw [Nat.zero_add]; exact hF j u hu)
 cases this with
 | sl0 a cap h => simp at h0
 | sl _ _ _ _ _ sz vals hl h0' hc' hs hnn hf hr' =>
  have hsz : sz = n := by
   have e1 := hnn 0 _ (xgE h0)
   have e2 := hr.each 0 _ (xgE h0)
   omega
  subst hsz
  exact .ow xs j B _ cap sz vals hB rfl h0 hc hs hnn (fun i k hi hk => by have := hf i k hi hk; rwa [Nat.zero_add] at this) hr' hm hx
theorem appendT_run (hS : St P F L NX w H) {t tx ty : TypeId} {xa xb : AV} {v y : Value} {r : AV} {H' : Heap} (hx : Rel F L xa v) (hy : Rel F L xb y) (h : appendT P H t tx xa (viewR P H tx xb) = some (r, H')) :
  ∃ u w' F' L', (Builtin.append_ #[t, tx] ty #[v, y]).run P w = .ok u w' ∧ Rel F' L' r u ∧ St P F' L' NX w' H' ∧ Goes (fun _ => False) F L w F' L' w' := by
 generalize hv : viewR P H tx xb = yb at h
 unfold appendT at h
 split at h
 case h_2 => cases h
 rename_i el el' ys ht htx
 split at h
 case h_2 => cases h
 rename_i n by_ z hn hby hz
 split at h
 case isFalse =>
  split at h
  ·rename_i hc2
   obtain ⟨hn0, hy0⟩ := hc2
   split at h
   ·rename_i xs j
    split at h
    ·rename_i hxs0
     injection h with h; injection h with h1 h2; subst h1 h2
     have hys : ys = [] := List.eq_nil_of_length_eq_zero hy0
     subst hys
     obtain ⟨news, hsrc, hrow⟩ := view_src hS htx hy hn0 hv (by simp)
     have hnw : news = [] := List.eq_nil_of_length_eq_zero (by simpa using hrow.len)
     subst hnw
     obtain ⟨ie, hie, hien⟩ : ∃ ie, P.info? el = some ie ∧ ie.size = n := by
      unfold sizeT at hn
      obtain ⟨ie, h1, h2⟩ := xoM.1 hn
      exact ⟨ie, h1, h2⟩
     have hx0 := hx
     cases hx with
     | ow _ _ B len cap sz vals h hl h0 hc hs hnn hf hr hm hx => omega
     | ow0 _ a =>
      have hr0 := run_append_nothing w t tx ty el ie ht hie a 0 0 (Nat.le_refl _) y (by rw [hien]; exact hsrc)
      exact ⟨_, w, F, L, hr0, hx0, hS, Goes.refl _ F L w⟩
    ·cases h
   ·cases h
  ·cases h
 rename_i hc
 obtain ⟨hn0, hzl, hyn, hpos⟩ := hc
 obtain ⟨news, hsrc, hrow⟩ := view_src hS htx hy hn0 hv hyn
 obtain ⟨ie, hie, hien⟩ : ∃ ie, P.info? el = some ie ∧ ie.size = n := by
  unfold sizeT at hn
  obtain ⟨ie, h1, h2⟩ := xoM.1 hn
  exact ⟨ie, h1, h2⟩
 have hieb : ie.bytes = by_ := by unfold bytesT at hby; simpa [hie] using hby
 obtain ⟨zv, zarr, z1, z2, z3, z4, z5⟩ := zeroA_run (P := P) (F := F) (L := L) (w := w) hz
 have hzz : ie.zero = some zv := by simpa [hie] using z5
 have hnl : news.length = ys.length * n := hsrc.newsLen
 have grow : ∀ (base : Option Addr) (xs : List AV) (cap : Nat) (olds : List Value) (H0 : Heap), v = .slice base xs.length cap → Row F L n xs olds → (∀ u ∈ olds, u.oneCell' = true) →
   (∀ w', (Builtin.firstCells n xs.length (.slice base xs.length cap)).run P w' = .ok olds.toArray w' ∨ w' ≠ w.drew) → cap < xs.length + ys.length → (xs.length + ys.length) * (by_ + 1) ≤ 140737488355328 → St P F L NX w H0 →
   ∃ u w' F' L', (Builtin.append_ #[t, tx] ty #[v, y]).run P w = .ok u w' ∧ Rel F' L' (.ow (xs ++ ys) H0.length) u ∧ St P F' L' NX w' (H0 ++ [[.tk ((xs.length + ys.length) * n)]]) ∧ Goes (fun _ => False) F L w F' L' w' := by
  intro base xs cap olds H0 hv' hor hone hfirst hcap hle hS0
  subst hv'
  have hol := hor.len
  have hml : xs.length + ys.length ≤ 140737488355328 := Nat.le_trans (Nat.le_mul_of_pos_right _ (by omega)) hle
  have hbytes : (xs.length + ys.length) * ie.bytes ≤ 140737488355328 := by
   rw [hieb]
   rw [Nat.mul_add, Nat.mul_one] at hle
   omega
  have hold : (Builtin.firstCells ie.size xs.length (.slice base xs.length cap)).run P w.drew = .ok olds.toArray w.drew := by
   rw [hien]
   rcases hfirst w.drew with h | h
   ·exact h
   ·exact absurd rfl h
  have hr0 := run_append_grow_src w t tx ty el ie zv ht hie hzz base xs.length cap olds hold y ys.length news (by rw [hien]; exact hsrc) (by omega) (by omega) (growslice_fits (by omega) hbytes)
  obtain ⟨c', hc'⟩ : ∃ c', c' = grownCap w (xs.length + ys.length) cap el := ⟨_, rfl⟩
  have hge : xs.length + ys.length ≤ c' := hc' ▸ grownCap_ge w _ _ _
  rw [← hc'] at hr0
  obtain ⟨arr, harr⟩ : ∃ arr : List Value, arr = (olds ++ news) ++ (Builtin.zeroCells zv.cells (c' - (xs.length + ys.length))).toList := ⟨_, rfl⟩
  have harr' : (olds ++ news).toArray ++ Builtin.zeroCells zv.cells (c' - (xs.length + ys.length)) = arr.toArray := by
   rw [harr]
   apply Array.ext'
   simp
  rw [harr'] at hr0
  have hg : Grew w (w.drew.alloc (.cells arr.toArray el)) arr el (0, 0) :=
   ⟨by simp, fun B hB => Go.heap_alloc_old w.drew _ B hB, Go.heap_alloc_new w.drew _, rfl, rfl, rfl⟩
  have hzc : (Builtin.zeroCells zv.cells (c' - (xs.length + ys.length))).toList.length = (c' - (xs.length + ys.length)) * n := by
   rw [Array.length_toList, size_zeroCells, z2]
   simp [z3, hzl]
  have hon : (olds ++ news).length = (xs.length + ys.length) * n := by rw [List.length_append, hol, hnl, Nat.add_mul]
  have hal : arr.length = c' * n := by
   rw [harr, List.length_append, hon, hzc, ← Nat.add_mul]
   congr 1; omega
  have hones : ∀ u ∈ olds ++ news, u.oneCell' = true := by
   intro u hu
   rcases List.mem_append.1 hu with h | h
   ·exact hone u h
   ·exact hsrc.one u h
  obtain ⟨hS1, hgo1⟩ := hS0.row hg (olds ++ news) (fun i u hu => ⟨by rw [harr, xgL (xgI.1 hu).1]; exact hu, hones u (List.mem_of_getElem? hu)⟩)
  have hpos2 : 0 < (xs.length + ys.length) * n := Nat.mul_pos (by omega) hn0
  have hge2 : (xs.length + ys.length) * n ≤ c' * n := Nat.mul_le_mul_right n hge
  obtain ⟨F', f1, f2, hS2, hgo2⟩ := hS1.addTk (lo := (xs.length + ys.length) * n) (r := c' * n) hg.new (fun hm => absurd (hS.lt _ hm) (by omega)) (by omega) (hS.room0 _ (Nat.le_refl _)) (by omega) (fun i hi => by
   rw [addF_get, if_pos rfl, List.getElem?_eq_none (by omega)]) hgo1 (Nat.le_refl _)
  refine ⟨_, _, F', _, hr0, ?_, hS2, hgo2⟩
  have hrow2 : Row F' (L ++ [w.heap.size]) n (xs ++ ys) (olds ++ news) := (hor.append hrow).goes hgo2
  have := Rel.mkOw (B := w.heap.size) (j := H0.length) (cap := c') hrow2 hn0 (by rw [List.length_append]; omega) (by rw [List.length_append]; exact hge) (fun i u hu => by
   show F'.get w.heap.size i = some u
   rw [f1]
   show addF F w.heap.size (olds ++ news) w.heap.size i = some u
   rw [addF_get, if_pos rfl]; exact hu) (by rw [xgR (by rw [hS0.len]; exact Nat.le_refl _), hS0.len, Nat.sub_self]; rfl) (by rw [f2]; exact Nat.le_refl _) (by rw [hc']; exact grownCap_le_maxLen w _ _ _ (by unfold maxLen; omega))
  rw [List.length_append] at this
  exact this
 split at h
 ·-- behind nothing
  split at h
  ·rename_i hle
   obtain ⟨hnv, hle⟩ := hle
   have hnx := isNilV_spec hnv
   subst hnx
   injection h with h; injection h with h1 h2; subst h1 h2
   have hvn : v = .slice none 0 0 := nil_val hx
   have := grow none [] 0 [] H hvn (Row.nil n) (by simp) (fun w' => .inl (run_firstCells_none w' n 0 0 0)) (by simpa using hpos) (by simpa using hle) hS
   simpa using this
  ·cases h
 ·rename_i xs j
  split at h
  ·rename_i hcond
   obtain ⟨htk, hle, hxn, hx0⟩ := hcond
   injection h with h; injection h with h1 h2; subst h1 h2
   obtain ⟨cs, hj, hcs⟩ := xoB.1 htk
   have := tkRow_spec hcs
   subst this
   obtain ⟨B, cap, hv', hB, _, hcap, hroom, hx9⟩ := hx.owRow hx0 hxn
   obtain ⟨ad, cap2, olds, hv2, hc2, hnone, hor, hone, hFo⟩ := hx.owA.row hS hxn
   rw [hv'] at hv2
   injection hv2 with e1 e2 e3
   subst e1 e3
   obtain ⟨arr, ta, m1, m2, m3, m4⟩ := hS.obj j _ B hj (by simp) rfl hB
   have hol := hor.len
   have holds : ∀ (i : Nat) u, olds[i]? = some u → F B i = some u := by
    intro i u hu
    obtain ⟨B', o', he, hf⟩ := hFo (by intro hv; rw [hv] at hu; simp at hu)
    injection he with he; injection he with he1 he2
    subst he1 he2
    have := hf i u hu
    rwa [Nat.zero_add] at this
   by_cases hrm : xs.length + ys.length ≤ cap
   ·have hcn : (xs.length + ys.length) * n ≤ cap * n := Nat.mul_le_mul_right n hrm
    have hfit : xs.length * n + news.length ≤ arr.length := by
     rw [hnl, ← Nat.add_mul]; omega
    have hcell : ∀ i, i < news.length → (w.cell? ⟨B, 0 + xs.length * n + i, none⟩).isSome = true := by
     intro i hi
     rw [m1.cell, xgE (by omega)]; rfl
    subst hv'
    have hr0 := run_append_room_src w t tx ty el ie ht hie B 0 xs.length cap y ys.length news (by rw [hien]; exact hsrc) hrm
     (fun i hi => by rw [hien]; exact hcell i hi) (fun i hi => by rw [hien]; exact m1.soft (by omega))
    rw [hien, Nat.zero_add] at hr0
    obtain ⟨F', f1, f2, hS', hgo⟩ := hS.tkIn hj hB hsrc.one m1 hfit m3
    rw [hnl, ← Nat.add_mul] at hS'
    refine ⟨_, _, F', L ++ [B], hr0, ?_, hS', hgo⟩
    have hrow2 : Row F' (L ++ [B]) n (xs ++ ys) (olds ++ news) := (hor.append hrow).goes hgo
    have := Rel.mkOw (B := B) (j := H.length) (cap := cap) hrow2 hn0 (by rw [List.length_append]; omega) (by rw [List.length_append]; exact hrm) (fun i u hu => by
     rcases Nat.lt_or_ge i olds.length with hl | hl
     ·rw [xgL hl] at hu
      exact hgo.mono _ _ _ (holds i u hu)
     ·rw [xgR hl] at hu
      have hil := (xgI.1 hu).1
      rw [f2, if_pos ⟨rfl, by omega, by omega⟩, ← hu, hol]) (by rw [xgR (by rw [hS.len]; exact Nat.le_refl _), hS.len, Nat.sub_self]; rfl) (by rw [f1]; exact hroom) hx9
    rw [List.length_append] at this
    exact this
   ·have := grow (some ⟨B, 0, none⟩) xs cap olds (H.set j []) hv' hor hone (fun w' => by
      by_cases hw : w' = w.drew
      ·refine .inl ?_
       subst hw
       exact run_firstCells_some w.drew n xs.length ⟨B, 0, none⟩ xs.length cap olds hol (fun i u hu => by
        rw [add_at, Nat.zero_add]
        exact (hS.mem _ _ _ (holds i u hu)).1)
      ·exact .inr hw) (by omega) hle (hS.dead j)
    rw [List.length_set] at this
    exact this
  ·split at h
   ·rename_i hc3
    obtain ⟨hx0, hle⟩ := hc3
    injection h with h; injection h with h1 h2; subst h1 h2
    have hxs : xs = [] := List.eq_nil_of_length_eq_zero hx0
    subst hxs
    cases hx with
    | ow _ _ B len cap sz vals h hl h0 hc hs hnn hf hr hm hx => simp at hl; omega
    | ow0 _ a =>
     have := grow a [] 0 [] H rfl (Row.nil n) (by simp) (fun w' => .inl (run_first0 w' n a)) (by simpa using hpos) (by simpa using hle) hS
     simpa using this
   ·cases h
 ·cases h
theorem tkA_run (hS : St P F L NX w H) {o : Oper} {ρ : Operand → Value} (hT : ∀ x, Rel F L (ev e x) (ρ x)) (hc : ∀ v, ρ (.const v) = v) {r : AV} {H' : Heap} (h : tkA P e H o.op = some (r, H')) :
  ∃ u w' F' L', (execOp ρ o).run P w = .ok (.value u) w' ∧ Rel F' L' r u ∧ St P F' L' NX w' H' ∧ Goes (fun _ => False) F L w F' L' w' := by
 obtain ⟨dst, op, type, pos, after, guard⟩ := o
 simp only at h ⊢
 unfold tkA at h
 split at h
 ·split at h
  ·rename_i hnv
   have hnx := isNilV_spec hnv
   subst hnx
   injection h with h; injection h with h1 h2; subst h1 h2
   exact ⟨.slice none 0 0, w, F, L, by simp [execOp, hc], .sc _ rfl, hS, Goes.refl _ F L w⟩
  ·cases h
 ·rename_i args ts
  split at h
  ·rename_i x y t u hargs hts
   have e1 : args = #[x, y] := by obtain ⟨l⟩ := args; simp at hargs; subst hargs; rfl
   have e2 : ts = #[t, u] := by obtain ⟨l⟩ := ts; simp at hts; subst hts; rfl
   subst e1 e2
   obtain ⟨v, w', F', L', h1, h2, h3, h4⟩ := appendT_run (ty := type) hS (hT x) (hT y) h
   refine ⟨v, w', F', L', ?_, h2, h3, h4⟩
   unfold execOp
   simp only [resolve, invoke, builtin, Sem.run_bind, Sem.run_pure, Result.andThen_ok, List.map_toArray, List.map_cons, List.map_nil, h1]
  ·cases h
 ·rename_i t len ps
  unfold buildT at h
  split at h
  ·rename_i h0
   subst h0
   obtain ⟨r0, hb, h⟩ := xoM.1 h
   injection h with h1 h2; subst h1 h2
   have hps : (ps.map fun p => (p.1, ρ p.2)) = (ps.toList.map fun p => (p.1, ρ p.2)).toArray := by apply Array.ext'; simp
   obtain ⟨_, _, _, _, _, hrun⟩ := buildSliceA_alloc w (partsRel hT ps) hb
   obtain ⟨u, w', F', n, el, _, _, k1, k2, k3, k4, _⟩ := buildSliceA_run hS (partsRel hT ps) hb
   rw [hrun] at k1
   injection k1 with k5 k6; subst k5 k6
   refine ⟨.slice (some ⟨w.heap.size, 0, none⟩) 0 0, _, F', L, ?_, .ow0 0 _, k3, k4⟩
   simp [execOp]; rw [hps]; simp [hrun]
  ·cases h
 ·cases h
theorem special_ok (hI : Inv P G F0 L0 w0 N O e H F L a w) (hA : AliasOK A a) {o : Oper} {r : AV} {H' : Heap} (h : (if C.isTk o.dst = true then tkA P e H o.op else muA P e H o.op) = some (r, H')) (hd : ∀ d', o.dst = some d' → d' < N)
  {next : Act → World → Prop} {Q : Exit → Act → World → Prop}
  (hn : ∀ F' L' u w', Inv P G F0 L0 w0 N (killO o.dst O) (put e o.dst r) H' F' L' (a.put o.dst u) w' → AliasOK (killA o.dst A) (a.put o.dst u) → next (a.put o.dst u) w') : o.wp P a w next Q := by
 split at h
 ·obtain ⟨u, w', F', L', h1, h2, h3, h4⟩ := tkA_run (o := o) (ρ := a.eval) hI.st hI.ev (fun v => rfl) h
  unfold Oper.wp
  rw [h1]
  have := hI.step (O1 := O) (new := []) (u := u) (r := r) hd h3 h4 h2 (fun B hB hg => hg.elim) (fun p hp => hp) (fun p hp B hB hg => hg) (by simp) (by simp) (by simp)
  exact hn F' L' u w' (by simpa using this) (hA.kill (fun d' he => Nat.lt_of_lt_of_le (hd d' he) hI.size) u)
 ·exact mu_ok hI hA h hd hn
end
end Go.Lv
set_option linter.unusedVariables false
set_option linter.unusedSimpArgs false
namespace Go.Lv
section
variable {P : Program} {C : Cfg} {G : Nat → Prop} {F0 : Facts} {L0 : List Nat} {w0 : World} {N : Nat} {O O' : OSet} {A A' : List (Nat × Nat)} {e : Env} {H : Heap} {F : Facts} {L : List Nat} {a : Act} {w : World}
theorem find_place {s c : Nat} {p : Nat × Nat × Nat} (h : O.find? (fun p => p.1 == s && p.2.1 == c) = some p) : p ∈ O ∧ p.1 = s ∧ p.2.1 = c := by
 have h1 := List.find?_some h
 simp at h1
 exact ⟨List.mem_of_find?_eq_some h, h1.1, h1.2⟩
theorem ownerOf_spec {s c : Nat} {p : Nat × Nat × Nat} (h : ownerOf O A s c = some p) : p ∈ O ∧ p.2.1 = c ∧ (p.1 = s ∨ (s, p.1) ∈ A) := by
 unfold ownerOf at h
 split at h
 ·rename_i q hq
  injection h with h; subst h
  obtain ⟨f1, f2, f3⟩ := find_place hq
  exact ⟨f1, f3, .inl f2⟩
 ·obtain ⟨q, hq, h⟩ := xoB.1 h
  obtain ⟨f1, f2, f3⟩ := find_place h
  have h1 := List.find?_some hq
  simp at h1
  refine ⟨f1, f3, .inr ?_⟩
  have := List.mem_of_find?_eq_some hq
  obtain ⟨q1, q2⟩ := q
  simp only at h1 f2
  rw [f2, ← h1]; exact this
theorem opB_ok {call : CallF} (hK : Known P C call) (hI : Inv P G F0 L0 w0 N O e H F L a w) (hA : AliasOK A a) {o : Oper} {r : AV} {H' : Heap} (h : stepB P C (C.via o.dst call) e H o.op = some (r, H')) (hmu : ¬ C.spec o.dst o.op = true) (hc : chkOp P C N o O A = some (O', A'))
  {next : Act → World → Prop} {Q : Exit → Act → World → Prop}
  (hn : ∀ F' L' u w', Inv P G F0 L0 w0 N O' (put e o.dst r) H' F' L' (a.put o.dst u) w' → AliasOK A' (a.put o.dst u) → next (a.put o.dst u) w') : o.wp P a w next Q := by
 obtain ⟨hd, hc⟩ := dst_lt hc
 have hlt : ∀ d', o.dst = some d' → d' < a.tmps.size := fun d' he => Nat.lt_of_lt_of_le (hd d' he) hI.size
 have keep : ∀ {p : OSet × List (Nat × Nat)}, some p = some (O', A') → p = (killO o.dst O, killA o.dst A) → isAppend o.op = false → opA P e H o.op = some (r, H') → o.wp P a w next Q := by
  intro p hp he ha ho
  injection hp with hp
  rw [he] at hp
  injection hp with h1 h2
  subst h1 h2
  exact keepO hI hA ho ha hd hn
 unfold chkOp1 at hc
 dsimp only at hc
 rw [if_neg hmu] at hc
 split at hc
 ·-- a constant is read
  rename_i v hop
  have ho : opA P e H o.op = some (r, H') := by rw [hop] at h ⊢; exact h
  have ha : isAppend o.op = false := by rw [hop]; rfl
  have hrun : (execOp a.eval o).run P w = .ok (.value v) w := by unfold execOp; rw [hop]; simp [Act.eval]
  split at hc
  ·rename_i hv
   split at hc
   ·rename_i n hsz
    injection hc with hc; injection hc with h1 h2; subst h1 h2
    exact nil_ok hI hA ho ha hd hv hrun n hn
   ·exact keep hc rfl ha ho
  ·exact keep hc rfl ha ho
 ·rename_i v hop
  have ho : opA P e H o.op = some (r, H') := by rw [hop] at h ⊢; exact h
  have ha : isAppend o.op = false := by rw [hop]; rfl
  have hrun : (execOp a.eval o).run P w = .ok (.value v) w := by unfold execOp; rw [hop]; simp [Act.eval]
  split at hc
  ·rename_i hv
   split at hc
   ·rename_i n hsz
    injection hc with hc; injection hc with h1 h2; subst h1 h2
    exact nil_ok hI hA ho ha hd hv hrun n hn
   ·exact keep hc rfl ha ho
  ·exact keep hc rfl ha ho
 ·-- a variable is read
  rename_i s hop
  have ho : opA P e H o.op = some (r, H') := by rw [hop] at h ⊢; exact h
  have ha : isAppend o.op = false := by rw [hop]; rfl
  have hrun : (execOp a.eval o).run P w = .ok (.value (a.tmps.getD s undef)) w := by unfold execOp; rw [hop]; simp [Act.eval]
  split at hc
  ·rename_i d' hdst
   split at hc
   ·exact keep hc rfl ha ho
   ·rename_i hne
    injection hc with hc; injection hc with h1 h2; subst h1 h2
    refine quiet_ok (A' := (d', s) :: killA o.dst A) hI hA ho ha hd (O1 := O) (new := []) (fun p hp => hp) (fun F' L' w' u hdone _ => ⟨fun p hp => by simp at hp, fun p hp => by simp at hp, ?_⟩) hn
    obtain ⟨rfl, rfl⟩ := done_val hdone hrun
    intro p hp
    rcases List.mem_cons.1 hp with rfl | hp
    ·have hsd : d' ≠ s := fun he => hne (by simp [he])
     rw [getD_put a _ _ _ hlt, getD_put a _ _ _ hlt, hdst, if_pos rfl, if_neg (by simpa using hsd)]; exact .inl rfl
    ·exact (hA.kill hlt _) p hp
  ·exact keep hc rfl ha ho
 ·-- a variable is written
  rename_i s hop
  have ho : opA P e H o.op = some (r, H') := by rw [hop] at h ⊢; exact h
  have ha : isAppend o.op = false := by rw [hop]; rfl
  have hrun : (execOp a.eval o).run P w = .ok (.value (a.tmps.getD s undef)) w := by unfold execOp; rw [hop]; simp [Act.eval]
  split at hc
  ·rename_i d' p hdst hf
   split at hc
   ·exact keep hc rfl ha ho
   ·injection hc with hc; injection hc with h1 h2; subst h1 h2
    obtain ⟨f1, f3, f4⟩ := ownerOf_spec hf
    have hv : valAt a p.1 p.2.1 = a.tmps.getD s undef ∨ (a.tmps.getD s undef).ownBlock = none := by
     rw [f3]
     rcases f4 with f4 | f4
     ·rw [f4]; exact .inl rfl
     ·rcases hA _ f4 with h1 | h1
      ·left; rw [h1]; rfl
      ·right; rw [h1]; rfl
    refine moved_ok hI hA ho ha hd hdst f1 hrun hv (O1 := dropO p.1 O) (fun q hq => ?_) hn
    simp only [dropO, List.mem_filter] at hq
    refine ⟨hq.1, fun he => ?_⟩
    injection he with e1 e2
    rw [f3] at e2
    simp [e1, e2] at hq
  ·exact keep hc rfl ha ho
 ·-- a result of several
  rename_i s i hop
  have ho : opA P e H o.op = some (r, H') := by rw [hop] at h ⊢; exact h
  have ha : isAppend o.op = false := by rw [hop]; rfl
  split at hc
  ·rename_i d' p hdst hf
   split at hc
   ·exact keep hc rfl ha ho
   ·injection hc with hc; injection hc with h1 h2; subst h1 h2
    obtain ⟨f1, f3, f4⟩ := ownerOf_spec hf
    have hv : valAt a p.1 p.2.1 = compOf (a.tmps.getD s undef) (i + 1) ∨ (compOf (a.tmps.getD s undef) (i + 1)).ownBlock = none := by
     rw [f3]
     rcases f4 with f4 | f4
     ·rw [f4]; exact .inl rfl
     ·rcases hA _ f4 with h1 | h1
      ·left; unfold valAt; rw [h1]
      ·right; rw [h1]; simp [compOf, undef, Value.ownBlock]
    have hrun : (execOp a.eval o).run P w = .ok (.value (compOf (a.tmps.getD s undef) (i + 1))) w := by
     rw [hop] at ho
     simp only [opA] at ho
     split at ho
     ·rename_i xs hx
      obtain ⟨r', hr', _⟩ := xoM.1 ho
      have hr := hI.ev (.tmp s)
      rw [hx] at hr
      have hev : a.eval (.tmp s) = a.tmps.getD s undef := rfl
      rw [hev] at hr
      cases hv : a.tmps.getD s undef with
      | tuple vs =>
       rw [hv] at hr
       cases hr with
       | tup xs arr hl hr =>
        have hlt : i < arr.length := hl ▸ (xgI.1 hr').1
        have hg' : (arr.toArray)[i]? = some (arr.getD i undef) := by rw [List.getElem?_toArray]; exact getD_get hlt
        have hg2 : (arr.toArray).getD i undef = arr.getD i undef := by rw [Array.getD_eq_getD_getElem?, hg']; rfl
        unfold execOp
        simp only [hop, hev, hv, Instr.extract, hg', Sem.run_bind, Sem.run_pure, Result.andThen_ok, compOf, hg2]
      | _ => rw [hv] at hr; cases hr
     ·cases ho
    refine moved_ok hI hA ho ha hd hdst f1 hrun hv (O1 := O.filter fun q => !(q.1 == p.1 && q.2.1 == i + 1)) (fun q hq => ?_) hn
    simp only [List.mem_filter] at hq
    refine ⟨hq.1, fun he => ?_⟩
    injection he with e1 e2
    rw [f3] at e2
    simp [e1, e2] at hq
  ·exact keep hc rfl ha ho
 ·-- a literal row
  rename_i t len ps hop
  have ho : opA P e H o.op = some (r, H') := by rw [hop] at h ⊢; exact h
  have ha : isAppend o.op = false := by rw [hop]; rfl
  split at hc
  ·rename_i n hsz
   injection hc with hc; injection hc with h1 h2; subst h1 h2
   cases hdst : o.dst with
   | none =>
    rw [hdst] at hn
    exact keepO hI hA ho ha hd (by rw [hdst]; exact hn)
   | some d =>
    refine quiet_ok (A' := killA o.dst A) hI hA ho ha hd (O1 := O) (new := [(d, 0, n)]) (fun p hp => hp) (fun F' L' w' u hdone hbs => ?_) (fun F' L' a' w' h1 h2 => hn F' L' a' w' (by rw [hdst] at h1 ⊢; exact h1) h2)
    obtain ⟨el, n', h1, h2, h3, h4, h5⟩ := hbs t len ps hop
    have hnn : n' = n := by
     unfold elemSz at hsz
     rw [h1] at hsz
     simp only [Option.bind_some] at hsz
     rw [h2] at hsz
     injection hsz
    subst hnn
    refine ⟨fun q hq => ?_, fun q hq q' hq' => ?_, hA.kill hlt _⟩
    ·simp at hq
     subst hq
     refine ⟨hdst, h3, fun B hB => .inl ?_⟩
     rw [show compOf u 0 = u from rfl, h4] at hB
     injection hB with hB
     omega
    ·simp at hq hq'
     rw [hq, hq']
  ·cases hc
 ·-- append
  rename_i args argTypes hop
  split at hc
  ·rename_i b y t tx h1 h2
   obtain ⟨n, hn', hc⟩ := xoB.1 hc
   obtain ⟨O1, hO1, hc⟩ := xoM.1 hc
   injection hc with h3 h4; subst h3 h4
   have e1 : args = #[b, y] := by obtain ⟨l⟩ := args; simp at h1; subst h1; rfl
   have e2 : argTypes = #[t, tx] := by obtain ⟨l⟩ := argTypes; simp at h2; subst h2; rfl
   subst e1 e2
   exact append_ok hI hA hop (by rw [hop] at h ⊢; exact h) hd hn' hO1 hn
  ·cases hc
 ·-- a call
  rename_i g args argTypes hop
  obtain ⟨O1, hO1, hc⟩ := xoM.1 hc
  injection hc with h3 h4; subst h3 h4
  rw [hop] at h
  simp only [stepB] at h
  exact call_ok hI hA (caps := []) hop rfl (hK.via (by simpa using h)) hd (.inl rfl) hO1 hn
 ·-- a call of a function value
  rename_i f args argTypes hnf hop
  rw [hop] at h
  unfold stepB at h
  split at h
  ·rename_i heq
   injection heq with heq
   injection heq with e1 e2 e3
   injection e1 with e1
   subst e1 e2
   split at h
   ·rename_i g
    exact absurd rfl (hnf g)
   ·rename_i g caps hx hgf
    split at h
    ·rename_i hdy
     injection hc with hc; injection hc with h1 h2; subst h1 h2
     have hsig := hK.dynD (d := o.dst) hdy
     refine call_ok hI hA (caps := caps) hop hgf (hK.via h) hd (.inr hsig) (O1 := O) (by rw [hsig]; rfl) (fun F' L' a' w' h1 h2 => hn F' L' a' w' ?_ h2)
     rw [hsig] at h1
     cases hdst : o.dst <;> (rw [hdst] at h1; simpa using h1)
    ·cases h
   ·cases h
  ·rename_i hno
   exact absurd rfl (hno _ _ _)
 ·-- all else
  rename_i h1 h2 h3 h4 h5 h6 h7 h8 h9
  have hcall : ∀ f args ts, o.op ≠ .call { callee := .value f, args := args, argTypes := ts } := fun f args ts he => h9 f args ts he
  have happ : isAppend o.op = false := by
   unfold isAppend
   split
   ·rename_i args ts he
    exact absurd he (h7 args ts)
   ·rfl
  have ho : opA P e H o.op = some (r, H') := by
   unfold stepB at h
   split at h
   ·rename_i f args ts he
    exact absurd he (hcall f args ts)
   ·exact h
  exact keep hc rfl happ ho
theorem op_ok {call : CallF} (hK : Known P C call) (hI : Inv P G F0 L0 w0 N O e H F L a w) (hA : AliasOK A a) {o : Oper} {r : AV} {H' : Heap} (h : stepA P C call o.dst e H o.op = some (r, H')) (hc : chkOp P C N o O A = some (O', A'))
  {next : Act → World → Prop} {Q : Exit → Act → World → Prop}
  (hn : ∀ F' L' u w', Inv P G F0 L0 w0 N O' (put e o.dst r) H' F' L' (a.put o.dst u) w' → AliasOK A' (a.put o.dst u) → next (a.put o.dst u) w') : o.wp P a w next Q := by
 unfold stepA at h
 split at h
 ·rename_i hmu
  obtain ⟨hd, hc'⟩ := dst_lt hc
  unfold chkOp1 at hc'
  dsimp only at hc'
  rw [if_pos hmu] at hc'
  injection hc' with hc'; injection hc' with h1 h2; subst h1 h2
  exact special_ok hI hA h hd hn
 ·rename_i hmu
  exact opB_ok hK hI hA h hmu hc hn
end
end Go.Lv
set_option linter.unusedVariables false
set_option linter.unusedSimpArgs false
namespace Go.Lv
section
variable {P : Program} {C : Cfg} {G : Nat → Prop} {F0 : Facts} {L0 : List Nat} {w0 : World} {N : Nat} {O O' : OSet} {A A' : List (Nat × Nat)} {e : Env} {H : Heap} {F : Facts} {L : List Nat} {a : Act} {w : World}
theorem takeO_sub {n : Nat} {x : Operand} (h : takeO O A n x = some O') : ∀ p ∈ O', p ∈ O := by
 cases x with
 | tmp t =>
  obtain ⟨s, hs, rfl⟩ := xoM.1 h
  exact fun p hp => (List.mem_filter.1 hp).1
 | const v =>
  simp only [takeO] at h
  split at h
  ·injection h with h; subst h; exact fun p hp => hp
  ·cases h
 | global g => cases h
 | func f => cases h
theorem takeArgs_sub : ∀ (ps : List (Option Nat)) (as_ : List Operand) (O O' : OSet), takeArgs A ps as_ O = some O' → ∀ p ∈ O', p ∈ O := by
 intro ps
 induction ps with
 | nil => intro as_ O O' h; simp only [takeArgs] at h; injection h with h; subst h; exact fun p hp => hp
 | cons p0 ps ih =>
  intro as_ O O' h
  cases as_ with
  | nil => cases p0 <;> simp [takeArgs] at h
  | cons x as_ =>
   cases p0 with
   | none => simp only [takeArgs] at h; exact ih as_ O O' h
   | some n =>
    simp only [takeArgs] at h
    obtain ⟨O1, h1, h2⟩ := xoB.1 h
    exact fun p hp => takeO_sub h1 p (ih as_ O1 O' h2 p hp)
theorem mem_addO {d : Option Nat} {c n : Nat} {X : OSet} : ∃ new : OSet, addO d c n X = new ++ X ∧ ∀ p ∈ new, d = some p.1 := by
 cases d with
 | none => exact ⟨[], rfl, by simp⟩
 | some d => exact ⟨[(d, c, n)], rfl, by simp⟩
theorem chkOp_shape {o : Oper} (h : chkOp1 P C o O A = some (O', A')) : ∃ new O1, O' = new ++ killO o.dst O1 ∧ (∀ p ∈ O1, p ∈ O) ∧ (∀ p ∈ new, o.dst = some p.1) ∧ (A' = killA o.dst A ∨ o.guard = none ∨ ∃ d' s, o.dst = some d' ∧ A' = (d', s) :: killA o.dst A) := by
 have keep : ∀ {p : OSet × List (Nat × Nat)}, some p = some (O', A') → p = (killO o.dst O, killA o.dst A) → ∃ new O1, O' = new ++ killO o.dst O1 ∧ (∀ p ∈ O1, p ∈ O) ∧ (∀ p ∈ new, o.dst = some p.1) ∧ (A' = killA o.dst A ∨ o.guard = none ∨ ∃ d' s, o.dst = some d' ∧ A' = (d', s) :: killA o.dst A) := by
  intro p hp he
  injection hp with hp
  rw [he] at hp
  injection hp with h1 h2
  subst h1 h2
  exact ⟨[], O, rfl, fun p hp => hp, by simp, .inl rfl⟩
 have add : ∀ {n : Nat} {O1 : OSet}, (∀ p ∈ O1, p ∈ O) → some (addO o.dst 0 n (killO o.dst O1), killA o.dst A) = some (O', A') → ∃ new O1, O' = new ++ killO o.dst O1 ∧ (∀ p ∈ O1, p ∈ O) ∧ (∀ p ∈ new, o.dst = some p.1) ∧ (A' = killA o.dst A ∨ o.guard = none ∨ ∃ d' s, o.dst = some d' ∧ A' = (d', s) :: killA o.dst A) := by
  intro n O1 h1 h2
  injection h2 with h2
  injection h2 with h2 h3
  subst h2 h3
  obtain ⟨new, hn, hd⟩ := mem_addO (d := o.dst) (c := 0) (n := n) (X := killO o.dst O1)
  exact ⟨new, O1, hn, h1, hd, .inl rfl⟩
 unfold chkOp1 at h
 dsimp only at h
 split at h
 ·exact keep h rfl
 split at h
 ·split at h
  ·split at h
   ·exact add (fun p hp => hp) h
   ·exact keep h rfl
  ·exact keep h rfl
 ·split at h
  ·split at h
   ·exact add (fun p hp => hp) h
   ·exact keep h rfl
  ·exact keep h rfl
 ·split at h
  ·rename_i d' hd
   split at h
   ·exact keep h rfl
   ·injection h with h; injection h with h1 h2; subst h1 h2
    exact ⟨[], O, rfl, fun p hp => hp, by simp, .inr (.inr ⟨_, _, hd, rfl⟩)⟩
  ·exact keep h rfl
 ·split at h
  ·split at h
   ·exact keep h rfl
   ·exact add (fun p hp => (List.mem_filter.1 hp).1) h
  ·exact keep h rfl
 ·split at h
  ·split at h
   ·exact keep h rfl
   ·exact add (fun p hp => (List.mem_filter.1 hp).1) h
  ·exact keep h rfl
 ·split at h
  ·exact add (fun p hp => hp) h
  ·cases h
 ·split at h
  ·obtain ⟨n, _, h⟩ := xoB.1 h
   obtain ⟨O1, hO1, h⟩ := xoM.1 h
   exact add (takeO_sub hO1) (congrArg some h)
  ·cases h
 ·obtain ⟨O1, hO1, h⟩ := xoM.1 h
  injection h with h1 h2; subst h1 h2
  refine ⟨_, O1, rfl, takeArgs_sub _ _ _ _ hO1, fun p hp => ?_, .inl rfl⟩
  split at hp
  ·rename_i d hd
   obtain ⟨q, _, rfl⟩ := List.mem_map.1 hp
   exact hd
  ·cases hp
 ·exact keep h rfl
 ·exact keep h rfl
theorem undef_comp (c : Nat) : (compOf undef c).ownBlock = none := by
 cases c <;> simp [compOf, undef, Value.ownBlock]
theorem skip_rel {F : Facts} {L : List Nat} : Rel F L skipA undef := .tup [] [] rfl (fun k c hk => by simp at hk)
theorem skip_ok (hI : Inv P G F0 L0 w0 N O e H F L a w) (hA : AliasOK A a) {o : Oper} (hc : chkOp P C N o O A = some (O', A')) (hg : o.guard ≠ none) :
  Inv P G F0 L0 w0 N O' (put e o.dst skipA) H F L (a.put o.dst undef) w ∧ AliasOK A' (a.put o.dst undef) := by
 obtain ⟨hd, hc⟩ := dst_lt hc
 obtain ⟨new, O1, rfl, h1, h2, h3⟩ := chkOp_shape hc
 refine ⟨hI.step (G1 := fun _ => False) hd hI.st (Goes.refl _ F L w) skip_rel (fun _ _ h => h.elim) h1 (fun _ _ _ _ h => h) (fun p hp => ⟨h2 p hp, own_none (undef_comp _), fun B hB => ?_⟩) (fun p hp B hB => ?_) (fun p hp q hq hne B hB => ?_), ?_⟩
 ·rw [undef_comp] at hB; cases hB
 ·rw [undef_comp] at hB; cases hB
 ·rw [undef_comp] at hB; cases hB
 ·rcases h3 with h3 | h3 | ⟨d', s, h4, h3⟩
  ·subst h3
   exact hA.kill (fun d' he => Nat.lt_of_lt_of_le (hd d' he) hI.size) undef
  ·exact absurd h3 hg
  ·subst h3
   intro p hp
   rcases List.mem_cons.1 hp with rfl | hp
   ·right
    rw [getD_put a _ _ _ (fun d' he => Nat.lt_of_lt_of_le (hd d' he) hI.size), h4, if_pos rfl]
   ·exact hA.kill (fun d' he => Nat.lt_of_lt_of_le (hd d' he) hI.size) undef p hp
theorem wants_ok (hI : Inv P G F0 L0 w0 N O e H F L a w) {all : Array Oper} {o : Oper} {t : Bool} (h : wants all e o = some t) : Region.wanted o (yielded all a.tmps) = t := by
 unfold wants at h
 unfold Region.wanted
 split at h
 ·rename_i hg
  injection h with h
  rw [hg]
  exact h
 ·rename_i j want hg
  rw [hg]
  split at h
  ·rename_i d hd
   split at h
   ·rename_i b hb
    injection h with h
    have hr := hI.tie d
    rw [hb] at hr
    obtain ⟨hv, _⟩ := hr.v_eq
    have hget : a.tmps[d]? = some (.bool b) := by
     rw [Array.getD_eq_getD_getElem?] at hv
     cases hx : a.tmps[d]? with
     | none => rw [hx] at hv; simp [undef] at hv
     | some x => rw [hx] at hv; simp at hv; rw [hv]
    simp only [yielded, hd, Option.bind_some, hget]
    rw [← h]
    cases b <;> cases want <;> rfl
   ·rename_i xs hb
    split at h
    ·rename_i hx
     injection h with h
     have hx0 : xs = [] := by simpa using hx
     subst hx0
     have hr := hI.tie d
     rw [hb] at hr
     rw [← h]
     generalize hv : a.tmps.getD d undef = v at hr
     cases hr with
     | tup _ arr hl hr =>
      have ha : arr = [] := List.eq_nil_of_length_eq_zero (by simpa using hl)
      subst ha
      rw [Array.getD_eq_getD_getElem?] at hv
      simp only [yielded, hd, Option.bind_some]
      cases hg : a.tmps[d]? with
      | none => cases want <;> rfl
      | some x => rw [hg] at hv; simp at hv; subst hv; cases want <;> rfl
    ·cases h
   ·cases h
  ·cases h
theorem lops_ok {call : CallF} (hK : Known P C call) {all : Array Oper} {Q : Exit → Act → World → Prop} : ∀ (os : List Oper) (l : List Nat) (O : OSet) (A : List (Nat × Nat)) (e : Env) (H : Heap) (F : Facts) (L : List Nat) (a : Act) (w : World) (e' : Env) (H' : Heap) (O' : OSet) (A' : List (Nat × Nat)),
  l.length = os.length → (∀ (k i : Nat) (o : Oper), l[k]? = some i → os[k]? = some o → all[i]? = some o) → Inv P G F0 L0 w0 N O e H F L a w → AliasOK A a → lops P C call all os e H = some (e', H') → chkOps P C N os O A = some (O', A') →
  (∀ F' L' a' w', Inv P G F0 L0 w0 N O' e' H' F' L' a' w' → Q .normal a' w') → wpOps P all Q l a w := by
 intro os
 induction os with
 | nil =>
  intro l O A e H F L a w e' H' O' A' hl hall hI hA h hc hQ
  have : l = [] := List.eq_nil_of_length_eq_zero (by simpa using hl)
  subst this
  simp only [lops] at h
  injection h with h; injection h with h1 h2; subst h1 h2
  simp only [chkOps] at hc
  injection hc with hc; injection hc with h1 h2; subst h1 h2
  exact hQ F L a w hI
 | cons o os ih =>
  intro l O A e H F L a w e' H' O' A' hl hall hI hA h hc hQ
  cases l with
  | nil => simp at hl
  | cons i l =>
   have ho : all[i]? = some o := hall 0 i o rfl rfl
   have hl' : l.length = os.length := by simpa using hl
   have hall' : ∀ (k i : Nat) (o : Oper), l[k]? = some i → os[k]? = some o → all[i]? = some o := fun k i o h1 h2 => hall (k + 1) i o (by simpa using h1) (by simpa using h2)
   simp only [chkOps] at hc
   obtain ⟨⟨O1, A1⟩, hc1, hc2⟩ := xoB.1 hc
   simp only [lops] at h
   simp only [wpOps, ho]
   split at h
   ·cases h
   ·rename_i hw
    rw [wants_ok hI hw]
    have hg : o.guard ≠ none := by
     intro hg
     simp [wants, hg] at hw
    obtain ⟨hI1, hA1⟩ := skip_ok hI hA hc1 hg
    exact ih l O1 A1 _ H F L _ w e' H' O' A' hl' hall' hI1 hA1 h hc2 hQ
   ·rename_i hw
    rw [wants_ok hI hw]
    obtain ⟨⟨r, H1⟩, h1, h2⟩ := xoB.1 h
    simp only [if_true]
    exact .inl (op_ok hK hI hA h1 hc1 fun F' L' u w' hI' hA' => ih l O1 A1 _ H1 F' L' _ w' e' H' O' A' hl' hall' hI' hA' h2 hc2 hQ)
end
end Go.Lv
set_option linter.unusedVariables false
set_option linter.unusedSimpArgs false
namespace Go.Lv
section
variable {P : Program} {C : Cfg} {call : CallF} {all : Array Oper} {G : Nat → Prop} {F0 : Facts} {L0 : List Nat} {w0 : World} {N : Nat}
structure StepT (P : Program) (C : Cfg) (call : CallF) (all : Array Oper) (E : Nat → Env) (Hs : Nat → Heap) (V : Nat → AV) (i : Nat) (o : Oper) : Prop where
 out : (wants all (E i) o = some false ∧ V i = skipA ∧ Hs (i + 1) = Hs i ∧ E (i + 1) = put (E i) o.dst (V i)) ∨
  (wants all (E i) o = some true ∧ stepA P C call o.dst (E i) (Hs i) o.op = some (V i, Hs (i + 1)) ∧ E (i + 1) = put (E i) o.dst (V i))
structure Trace (P : Program) (C : Cfg) (call : CallF) (all : Array Oper) (i : Nat) (os : List Oper) (S : Seen) (E : Nat → Env) (Hs : Nat → Heap) (V : Nat → AV) : Prop where
 step : ∀ (k : Nat) (o : Oper), os[k]? = some o → StepT P C call all E Hs V (i + k) o
 snap : ∀ (k : Nat) (o : Oper) r, os[k]? = some o → rdO P (E (i + k)) (Hs (i + k)) o.op (V (i + k)) = some r → wants all (E (i + k)) o = some true → ∀ s ∈ S.snaps, reachL all (i + k) s.1 = true ∨ loadA P s.2 r.1 r.2.1 = some r.2.2
 load : ∀ (k : Nat) (o : Oper), os[k]? = some o → effOp o.op = true → wants all (E (i + k)) o = some true → ∀ l ∈ S.loads, reachE all 8 (i + k) l.1 = true ∨ loadA P (Hs (i + k + 1)) l.2.1 l.2.2.1 = some l.2.2.2
 early : ∀ (k : Nat) (o : Oper) r, os[k]? = some o → rdO P (E (i + k)) (Hs (i + k)) o.op (V (i + k)) = some r → wants all (E (i + k)) o = some true → ∀ (j : Nat) (o' : Oper), j < k → os[j]? = some o' → effOp o'.op = true → wants all (E (i + j)) o' = some true →
  reachL all (i + k) (i + j) = true ∨ loadA P (Hs (i + j)) r.1 r.2.1 = some r.2.2
 late : ∀ (k : Nat) (o : Oper) r, os[k]? = some o → rdO P (E (i + k)) (Hs (i + k)) o.op (V (i + k)) = some r → wants all (E (i + k)) o = some true → ∀ (j : Nat) (o' : Oper), k < j → os[j]? = some o' → effOp o'.op = true → wants all (E (i + j)) o' = some true →
  reachE all 8 (i + j) (i + k) = true ∨ loadA P (Hs (i + j + 1)) r.1 r.2.1 = some r.2.2
 sl : ∀ (k : Nat) (o : Oper) t x lo hi mx j off, os[k]? = some o → o.op = .slice t x lo hi mx → ev (E (i + k)) x = .ptr j off → wants all (E (i + k)) o = some true → ∃ v, loadA P (Hs (i + k)) t (.ptr j off) = some v
theorem eff_not_load {o : Op} (h : effOp o = true) : ∀ t p, o ≠ .load t p := by
 rintro t p rfl
 cases h
theorem trace_of : ∀ (os : List Oper) (i : Nat) (e : Env) (H : Heap) (S : Seen) (e' : Env) (H' : Heap), lopsD P C call all i os e H S = some (e', H') →
  ∃ E Hs V, E i = e ∧ Hs i = H ∧ E (i + os.length) = e' ∧ Hs (i + os.length) = H' ∧ Trace P C call all i os S E Hs V := by
 intro os
 induction os with
 | nil =>
  intro i e H S e' H' h
  simp only [lopsD] at h
  injection h with h; injection h with h1 h2; subst h1 h2
  exact ⟨fun _ => e, fun _ => H, fun _ => skipA, rfl, rfl, rfl, rfl, ⟨by simp, by simp, by simp, by simp, by simp, by simp⟩⟩
 | cons o os ih =>
  intro i e H S e' H' h
  simp only [lopsD] at h
  have glue : ∀ (v : AV) (H1 : Heap) (S1 : Seen), lopsD P C call all (i + 1) os (put e o.dst v) H1 S1 = some (e', H') →
    ((wants all e o = some false ∧ v = skipA ∧ H1 = H) ∨ (wants all e o = some true ∧ stepA P C call o.dst e H o.op = some (v, H1))) →
    (∀ s ∈ S.snaps, s ∈ S1.snaps) → (∀ l ∈ S.loads, l ∈ S1.loads) →
    (wants all e o = some true → effOp o.op = true → (i, H) ∈ S1.snaps ∧ ∀ l ∈ S.loads, reachE all 8 i l.1 = true ∨ loadA P H1 l.2.1 l.2.2.1 = some l.2.2.2) →
    (wants all e o = some true → ∀ r, rdO P e H o.op v = some r → (i, r.1, r.2.1, r.2.2) ∈ S1.loads ∧ ∀ s ∈ S.snaps, reachL all i s.1 = true ∨ loadA P s.2 r.1 r.2.1 = some r.2.2) →
    (wants all e o = some true → ∀ t x lo hi mx j off, o.op = .slice t x lo hi mx → ev e x = .ptr j off → ∃ v, loadA P H t (.ptr j off) = some v) →
    ∃ E Hs V, E i = e ∧ Hs i = H ∧ E (i + (o :: os).length) = e' ∧ Hs (i + (o :: os).length) = H' ∧ Trace P C call all i (o :: os) S E Hs V := by
   intro v H1 S1 h hst hs1 hl1 heff hload hsl
   obtain ⟨E', Hs', V', e1, e2, e3, e4, T⟩ := ih (i + 1) _ H1 S1 e' H' h
   obtain ⟨E, hE⟩ : ∃ E : Nat → Env, E = fun j => if j = i then e else E' j := ⟨_, rfl⟩
   obtain ⟨Hs, hHs⟩ : ∃ Hs : Nat → Heap, Hs = fun j => if j = i then H else Hs' j := ⟨_, rfl⟩
   obtain ⟨V, hV⟩ : ∃ V : Nat → AV, V = fun j => if j = i then v else V' j := ⟨_, rfl⟩
   have Ei : E i = e := by simp [hE]
   have Hi : Hs i = H := by simp [hHs]
   have Vi : V i = v := by simp [hV]
   have Es : ∀ k, E (i + (k + 1)) = E' (i + 1 + k) := fun k => by simp [hE]; congr 1; omega
   have Hss : ∀ k, Hs (i + (k + 1)) = Hs' (i + 1 + k) := fun k => by simp [hHs]; congr 1; omega
   have Vs : ∀ k, V (i + (k + 1)) = V' (i + 1 + k) := fun k => by simp [hV]; congr 1; omega
   have E1 : E (i + 1) = put e o.dst v := by rw [← e1]; exact Es 0
   have H1' : Hs (i + 1) = H1 := by rw [← e2]; exact Hss 0
   refine ⟨E, Hs, V, Ei, Hi, ?_, ?_, ⟨fun k o' hk => ?_, fun k o' r hk hop hw s hs => ?_, fun k o' hk hef hw l hl => ?_, fun k o' r hk hop hw j o'' hj hoj hef hwj => ?_, fun k o' r hk hop hw j o'' hj hoj hef hwj => ?_, fun k o' t x lo hi mx j off hk hop hx hw => ?_⟩⟩
   ·rw [List.length_cons, Es, e3]
   ·rw [List.length_cons, Hss, e4]
   ·cases k with
    | zero =>
     simp at hk
     subst hk
     refine ⟨?_⟩
     rw [Nat.add_zero, Ei, Vi, Hi, H1', E1]
     rcases hst with ⟨h1, h2, h3⟩ | ⟨h1, h2⟩
     ·exact .inl ⟨h1, h2, h3, rfl⟩
     ·exact .inr ⟨h1, h2, rfl⟩
    | succ k =>
     have := (T.step k o' (by simpa using hk)).out
     refine ⟨?_⟩
     rw [Es, Vs, Hss, show i + (k + 1) + 1 = i + (k + 1 + 1) by omega, Hss, Es]
     exact this
   ·cases k with
    | zero =>
     simp at hk
     subst hk
     rw [Nat.add_zero] at hw hop ⊢
     rw [Ei] at hw
     rw [Ei, Hi, Vi] at hop
     exact (hload hw r hop).2 s hs
    | succ k =>
     rw [Es] at hw
     rw [Es, Hss, Vs] at hop
     have := T.snap k o' r (by simpa using hk) hop hw s (hs1 s hs)
     rw [show i + (k + 1) = i + 1 + k by omega]
     exact this
   ·cases k with
    | zero =>
     simp at hk
     subst hk
     rw [Nat.add_zero, Ei] at hw
     rw [Nat.add_zero, H1']
     exact (heff hw hef).2 l hl
    | succ k =>
     rw [Es] at hw
     have := T.load k o' (by simpa using hk) hef hw l (hl1 l hl)
     rw [show i + (k + 1) + 1 = i + (k + 1 + 1) by omega, Hss, show i + (k + 1) = i + 1 + k by omega]
     exact this
   ·cases k with
    | zero => omega
    | succ k =>
     rw [Es] at hw
     cases j with
     | zero =>
      simp at hoj
      subst hoj
      rw [Nat.add_zero, Ei] at hwj
      rw [Es, Hss, Vs] at hop
      have := T.snap k o' r (by simpa using hk) hop hw _ (heff hwj hef).1
      simp only [Nat.add_zero]
      rw [Hi, show i + (k + 1) = i + 1 + k by omega]
      exact this
     | succ j =>
      rw [Es] at hwj
      rw [Es, Hss, Vs] at hop
      have := T.early k o' r (by simpa using hk) hop hw j o'' (by omega) (by simpa using hoj) hef hwj
      rw [Hss, show i + (k + 1) = i + 1 + k by omega, show i + (j + 1) = i + 1 + j by omega]
      exact this
   ·cases j with
    | zero => omega
    | succ j =>
     rw [Es] at hwj
     cases k with
     | zero =>
      simp at hk
      subst hk
      rw [Nat.add_zero] at hw hop
      rw [Ei] at hw
      rw [Ei, Hi, Vi] at hop
      have := T.load j o'' (by simpa using hoj) hef hwj _ (hload hw r hop).1
      simp only [Nat.add_zero]
      rw [show i + (j + 1) + 1 = i + (j + 1 + 1) by omega, Hss, show i + (j + 1) = i + 1 + j by omega]
      exact this
     | succ k =>
      rw [Es] at hw
      rw [Es, Hss, Vs] at hop
      have := T.late k o' r (by simpa using hk) hop hw j o'' (by omega) (by simpa using hoj) hef hwj
      rw [show i + (j + 1) + 1 = i + (j + 1 + 1) by omega, Hss, show i + (k + 1) = i + 1 + k by omega, show i + (j + 1) = i + 1 + j by omega]
      exact this
   ·cases k with
    | zero =>
     simp at hk
     subst hk
     rw [Nat.add_zero] at hw hx ⊢
     rw [Ei] at hw hx
     rw [Hi]
     exact hsl hw t x lo hi mx j off hop hx
    | succ k =>
     rw [Es] at hw hx
     rw [Hss]
     exact T.sl k o' t x lo hi mx j off (by simpa using hk) hop hx hw
  split at h
  ·cases h
  ·rename_i hw
   exact glue skipA H S h (.inl ⟨hw, rfl, rfl⟩) (fun s h => h) (fun l h => h) (fun h => by rw [hw] at h; cases h) (fun h => by rw [hw] at h; cases h) (fun h => by rw [hw] at h; cases h)
  ·rename_i hw
   obtain ⟨⟨v, H1⟩, h1, h⟩ := xoB.1 h
   obtain ⟨S1, hS, h⟩ := xoB.1 h
   unfold seenOK at hS
   split at hS
   ·rename_i t p hop
    split at hS
    ·rename_i hc
     injection hS with hS; subst hS
     exact glue v H1 _ h (.inr ⟨hw, h1⟩) (fun s h => h) (fun l h => List.mem_cons_of_mem _ h) (fun _ he => absurd hop (eff_not_load he t p)) (fun _ r hr => by
      rw [hop] at hr
      injection hr with hr
      subst hr
      exact ⟨List.mem_cons_self, hc⟩) (fun _ t x lo hi mx j off he => by rw [hop] at he; cases he)
    ·cases hS
   ·rename_i t x lo hi mx hop
    have hne : effOp o.op = true → False := fun he => by rw [hop] at he; cases he
    split at hS
    ·rename_i j off hx
     obtain ⟨v', hv', hS⟩ := xoB.1 hS
     split at hS
     ·rename_i hc
      injection hS with hS; subst hS
      exact glue v H1 _ h (.inr ⟨hw, h1⟩) (fun s h => h) (fun l h => List.mem_cons_of_mem _ h) (fun _ he => (hne he).elim) (fun _ r hr => by
       rw [hop] at hr
       simp only [rdO, hx, hv', Option.map_some, Option.some.injEq] at hr
       subst hr
       exact ⟨List.mem_cons_self, hc⟩) (fun _ t1 x1 lo1 hi1 mx1 j1 off1 he hx1 => by
       rw [hop] at he
       injection he with e1 e2
       subst e1 e2
       rw [hx] at hx1
       injection hx1 with e1 e2
       subst e1 e2
       exact ⟨v', hv'⟩)
     ·cases hS
    ·rename_i hno
     injection hS with hS; subst hS
     have hrd : rdO P e H o.op v = none := by
      rw [hop]
      show (match ev e x with | .ptr j off => (loadA P H t (.ptr j off)).map fun v => (t, AV.ptr j off, v) | _ => none) = none
      split
      ·rename_i hx; exact absurd hx (hno _ _)
      ·rfl
     exact glue v H1 _ h (.inr ⟨hw, h1⟩) (fun s h => h) (fun l h => h) (fun _ he => (hne he).elim) (fun _ r hr => by rw [hrd] at hr; cases hr) (fun _ t1 x1 lo1 hi1 mx1 j1 off1 he hx1 => by
      rw [hop] at he
      injection he with e1 e2
      subst e1 e2
      exact absurd hx1 (hno _ _))
   ·rename_i hno1 hno2
    have hrd : rdO P e H o.op v = none := by
     unfold rdO
     split
     ·rename_i he; exact absurd he (hno1 _ _)
     ·rename_i he; exact absurd he (hno2 _ _ _ _ _)
     ·rfl
    split at hS
    ·rename_i he
     split at hS
     ·rename_i hc
      injection hS with hS; subst hS
      exact glue v H1 _ h (.inr ⟨hw, h1⟩) (fun s h => List.mem_cons_of_mem _ h) (fun l h => h) (fun _ _ => ⟨List.mem_cons_self, hc⟩) (fun _ r hr => by rw [hrd] at hr; cases hr) (fun _ t x lo hi mx j off hop => absurd hop (hno2 _ _ _ _ _))
     ·cases hS
    ·rename_i he
     injection hS with hS; subst hS
     exact glue v H1 _ h (.inr ⟨hw, h1⟩) (fun s h => h) (fun l h => h) (fun _ h => absurd h he) (fun _ r hr => by rw [hrd] at hr; cases hr) (fun _ t x lo hi mx j off hop => absurd hop (hno2 _ _ _ _ _))
end
end Go.Lv
set_option linter.unusedVariables false
set_option linter.unusedSimpArgs false
namespace Go.Lv
section
variable {P : Program} {C : Cfg} {call : CallF} {all : Array Oper} {G : Nat → Prop} {F0 : Facts} {L0 : List Nat} {w0 : World} {N : Nat} {E : Nat → Env} {Hs : Nat → Heap} {V : Nat → AV}
theorem ev_congr {e e' : Env} {x : Operand} (h : ∀ t, x = .tmp t → e t = e' t) : ev e x = ev e' x := by
 cases x with
 | tmp t => exact h t rfl
 | _ => rfl
theorem map_ev_congr {e e' : Env} {l : List Operand} (h : ∀ x ∈ l, ev e x = ev e' x) : l.map (ev e) = l.map (ev e') := List.map_congr_left h
theorem opt_ev_congr {e e' : Env} {o : Option Operand} (h : ∀ x ∈ o.toArray, ev e x = ev e' x) : o.map (ev e) = o.map (ev e') := by
 cases o with
 | none => rfl
 | some x => simp; exact h x (by simp)
theorem evX_congr {e e' : Env} {x : Operand} (h : ev e x = ev e' x) : evX e x = evX e' x := by
 cases x with
 | const v => rfl
 | tmp t => exact h
 | global g => exact h
 | func f => exact h
theorem opA_congr {e e' : Env} {H : Heap} {o : Op} (h : ∀ x ∈ o.operands, ev e x = ev e' x) : opA P e H o = opA P e' H o := by
 cases o with
 | call c =>
  obtain ⟨callee, args, ts⟩ := c
  cases callee with
  | builtin b =>
   have : (args.toList.map fun x => owA (ev e x)) = args.toList.map fun x => owA (ev e' x) := List.map_congr_left fun x hx => by rw [h x (by simpa [Op.operands, Call.operands] using hx)]
   by_cases hb : b = .append
   ·subst hb
    simp only [opA]
    split
    ·rename_i x y t u hargs hts
     have e1 : args = #[x, y] := by obtain ⟨l⟩ := args; simp at hargs; subst hargs; rfl
     subst e1
     rw [h x (by simp [Op.operands, Call.operands]), h y (by simp [Op.operands, Call.operands])]
    ·rfl
   ·by_cases hd : b = .delete
    ·subst hd
     simp only [opA]
     split
     ·rename_i x y t u hargs hts
      have e1 : args = #[x, y] := by obtain ⟨l⟩ := args; simp at hargs; subst hargs; rfl
      subst e1
      rw [h x (by simp [Op.operands, Call.operands]), h y (by simp [Op.operands, Call.operands])]
     ·rfl
    ·cases b <;> first | exact absurd rfl hb | exact absurd rfl hd | simp only [opA, this]
  | _ => rfl
 | build t ps =>
  have : (ps.toList.map fun p => (p.1, evX e p.2)) = (ps.toList.map fun p => (p.1, evX e' p.2)) := List.map_congr_left fun p hp => by
   rw [evX_congr <| h p.2 (by simp only [Op.operands, List.mem_toArray, List.mem_map]; exact ⟨p, hp, rfl⟩)]
  simp only [opA, this]
 | buildSlice t len ps =>
  have : (ps.toList.map fun p => (p.1, ev e p.2)) = (ps.toList.map fun p => (p.1, ev e' p.2)) := List.map_congr_left fun p hp => by
   rw [h p.2 (by simp only [Op.operands, List.mem_toArray, List.mem_map]; exact ⟨p, hp, rfl⟩)]
  simp only [opA, this]
 | makeFunc fn first caps =>
  have : caps.toList.map (ev e) = caps.toList.map (ev e') := map_ev_congr fun x hx => h x (by simp only [Op.operands, Array.mem_append]; exact .inr (by simpa using hx))
  cases fn <;> simp only [opA, this]
 | slice t x lo hi mx =>
  have h1 := h x (by simp [Op.operands])
  have h2 : lo.map (ev e) = lo.map (ev e') := opt_ev_congr fun y hy => h y (by simp [Op.operands] at hy ⊢; exact .inr (.inl hy))
  have h3 : hi.map (ev e) = hi.map (ev e') := opt_ev_congr fun y hy => h y (by simp [Op.operands] at hy ⊢; exact .inr (.inr (.inl hy)))
  have h4 : mx.map (ev e) = mx.map (ev e') := opt_ev_congr fun y hy => h y (by simp [Op.operands] at hy ⊢; exact .inr (.inr (.inr hy)))
  simp only [opA, h1, h2, h3, h4]
 | move x => simp only [opA, h x (by simp [Op.operands])]
 | assign x => simp only [opA, h x (by simp [Op.operands])]
 | pick c a b => simp only [opA, h c (by simp [Op.operands]), h a (by simp [Op.operands]), h b (by simp [Op.operands])]
 | box t x => simp only [opA, evX_congr (h x (by simp [Op.operands]))]
 | load t x => simp only [opA, h x (by simp [Op.operands])]
 | store t x y => simp only [opA, h x (by simp [Op.operands]), evX_congr (h y (by simp [Op.operands]))]
 | nilCheck x => simp only [opA, h x (by simp [Op.operands])]
 | binOp op t x y u => simp only [opA, h x (by simp [Op.operands]), h y (by simp [Op.operands])]
 | unOp op t x => simp only [opA, h x (by simp [Op.operands])]
 | convert s d x => simp only [opA, h x (by simp [Op.operands])]
 | fieldAddr t x f => simp only [opA, h x (by simp [Op.operands])]
 | field t x f => simp only [opA, h x (by simp [Op.operands])]
 | indexAddr t x y => simp only [opA, h x (by simp [Op.operands]), h y (by simp [Op.operands])]
 | index t x y => simp only [opA, h x (by simp [Op.operands]), h y (by simp [Op.operands])]
 | extract x i => simp only [opA, h x (by simp [Op.operands])]
 | makeMap t r => cases r <;> rfl
 | lookup t m k c => simp only [opA, h m (by simp [Op.operands]), h k (by simp [Op.operands])]
 | mapUpdate t m k v => simp only [opA, h m (by simp [Op.operands]), h k (by simp [Op.operands]), h v (by simp [Op.operands])]
 | insert t m k v => simp only [opA, h m (by simp [Op.operands]), h k (by simp [Op.operands]), h v (by simp [Op.operands])]
 | _ => rfl
theorem stepB_congr {e e' : Env} {H : Heap} {o : Op} (h : ∀ x ∈ o.operands, ev e x = ev e' x) : stepB P C call e H o = stepB P C call e' H o := by
 have hop := opA_congr (P := P) (H := H) h
 unfold stepB
 split
 ·rename_i f args ts
  have h1 : ∀ g, (args.toList.map fun x => argE C g e x) = args.toList.map fun x => argE C g e' x := fun g => List.map_congr_left fun x hx => by
   have hxx := h x (by simp only [Op.operands, Call.operands, Array.mem_append]; exact .inr (by simpa using hx))
   unfold argE
   rw [evX_congr hxx, hxx]
  have h2 := h f (by simp [Op.operands, Call.operands])
  simp only [h1, h2]
 ·rename_i o hno
  exact hop
theorem muA_congr {e e' : Env} {H : Heap} {o : Op} (h : ∀ x ∈ o.operands, ev e x = ev e' x) : muA P e H o = muA P e' H o := by
 unfold muA
 split
 ·rfl
 ·rename_i s
  have h1 : e s = e' s := h (.tmp s) (by simp [Op.operands])
  simp only [h1]
 ·rename_i args ts
  split
  ·rename_i x y t u hargs hts
   have e1 : args = #[x, y] := by obtain ⟨l⟩ := args; simp at hargs; subst hargs; rfl
   subst e1
   rw [h x (by simp [Op.operands, Call.operands]), h y (by simp [Op.operands, Call.operands])]
  ·rfl
 ·rename_i t l c
  rw [h l (by simp [Op.operands]), h c (by simp [Op.operands])]
 ·rename_i s d x
  rw [h x (by simp [Op.operands])]
 ·rename_i t len ps
  have h1 : (ps.toList.map fun p => (p.1, ev e p.2)) = ps.toList.map fun p => (p.1, ev e' p.2) := List.map_congr_left fun p hp => by
   rw [h p.2 (by simp only [Op.operands]; exact List.mem_toArray.2 (List.mem_map.2 ⟨p, hp, rfl⟩))]
  rw [h1]
 ·rename_i t x lo hi mx
  rw [h x (by simp [Op.operands])]
  have hl : lo.map (ev e) = lo.map (ev e') := by
   cases lo with
   | none => rfl
   | some y => simp only [Option.map_some]; rw [h y (by simp [Op.operands])]
  have hh : hi.map (ev e) = hi.map (ev e') := by
   cases hi with
   | none => rfl
   | some y => simp only [Option.map_some]; rw [h y (by simp [Op.operands])]
  have hm : mx.map (ev e) = mx.map (ev e') := by
   cases mx with
   | none => rfl
   | some y => simp only [Option.map_some]; rw [h y (by simp [Op.operands])]
  rw [hl, hh, hm]
 ·rename_i args ts
  split
  ·rename_i x y t u hargs hts
   have e1 : args = #[x, y] := by obtain ⟨l⟩ := args; simp at hargs; subst hargs; rfl
   subst e1
   rw [h x (by simp [Op.operands, Call.operands]), h y (by simp [Op.operands, Call.operands])]
  ·rfl
 ·rfl
theorem tkA_congr {e e' : Env} {H : Heap} {o : Op} (h : ∀ x ∈ o.operands, ev e x = ev e' x) : tkA P e H o = tkA P e' H o := by
 unfold tkA
 split
 ·rfl
 ·rename_i args ts
  split
  ·rename_i x y t u hargs hts
   have e1 : args = #[x, y] := by obtain ⟨l⟩ := args; simp at hargs; subst hargs; rfl
   subst e1
   rw [h x (by simp [Op.operands, Call.operands]), h y (by simp [Op.operands, Call.operands])]
  ·rfl
 ·rename_i t len ps
  have h1 : (ps.toList.map fun p => (p.1, ev e p.2)) = ps.toList.map fun p => (p.1, ev e' p.2) := List.map_congr_left fun p hp => by
   rw [h p.2 (by simp only [Op.operands]; exact List.mem_toArray.2 (List.mem_map.2 ⟨p, hp, rfl⟩))]
  rw [h1]
 ·rfl
theorem stepA_congr {e e' : Env} {H : Heap} {d : Option Nat} {o : Op} (h : ∀ x ∈ o.operands, ev e x = ev e' x) : stepA P C call d e H o = stepA P C call d e' H o := by
 unfold stepA
 rw [muA_congr h, tkA_congr h, stepB_congr h]
theorem stepA_pure {e : Env} {H : Heap} {d : Option Nat} {o : Op} (hs : C.spec d o = false) : stepA P C call d e H o = stepB P C (C.via d call) e H o := by
 unfold stepA
 rw [if_neg (by rw [hs]; simp)]
theorem pure_heap {e : Env} {H H1 : Heap} {o : Op} {v : AV} (hp : (pureOp o || buildOp o) = true) (h : stepB P C call e H o = some (v, H1)) : H1 = H ∧ ((∀ t p, o ≠ .load t p) → ∀ H', stepB P C call e H' o = some (v, H')) ∧ ∀ t p, o = .load t p → loadA P H t (ev e p) = some v := by
  have mk : ∀ {x : Option AV}, (x.map fun a => (a, H)) = some (v, H1) → x = some v ∧ H1 = H := by
    intro x hx
    obtain ⟨a, ha, he⟩ := xoM.1 hx
    injection he with h1 h2
    exact ⟨h1 ▸ ha, h2.symm⟩
  cases o with
  | load t p =>
    simp only [stepB, opA] at h
    obtain ⟨h1, h2⟩ := mk h
    exact ⟨h2, fun hn => absurd rfl (hn t p), fun t' p' he => by injection he with e1 e2; subst e1 e2; exact h1⟩
  | call c =>
    obtain ⟨callee, args, ts⟩ := c
    cases callee with
    | builtin b =>
      cases b <;> first
        | (simp [pureOp, buildOp] at hp; done)
        | (simp only [stepB, opA] at h
           obtain ⟨h1, h2⟩ := mk h
           exact ⟨h2, fun _ H' => by simp only [stepB, opA, h1, Option.map_some], fun t p he => by cases he⟩)
    | value f => simp [pureOp, buildOp] at hp
    | invoke r m => simp [pureOp, buildOp] at hp
  | move x => simp only [stepB, opA] at h; injection h with h; injection h with h1 h2; subst h1; exact ⟨h2.symm, fun _ H' => rfl, fun t p he => by cases he⟩
  | pick c a b =>
    simp only [stepB, opA] at h
    split at h
    · rename_i t hc
      injection h with h; injection h with h1 h2; subst h1
      exact ⟨h2.symm, fun _ H' => by simp only [stepB, opA, hc], fun t p he => by cases he⟩
    · cases h
  | nilCheck x =>
    simp only [stepB, opA] at h
    split at h
    · rename_i j off hc
      injection h with h; injection h with h1 h2; subst h1
      exact ⟨h2.symm, fun _ H' => by simp only [stepB, opA, hc], fun t p he => by cases he⟩
    · cases h
  | makeFunc fn first caps =>
    cases fn with
    | func f =>
      simp only [stepB, opA] at h
      split at h
      · rename_i hf
        injection h with h; injection h with h1 h2; subst h1
        exact ⟨h2.symm, fun _ H' => by simp only [stepB, opA, hf, if_true], fun t p he => by cases he⟩
      · cases h
    | _ => simp [stepB, opA] at h
  | extract x i =>
    simp only [stepB, opA] at h
    split at h
    · rename_i xs hc
      obtain ⟨h1, h2⟩ := mk h
      exact ⟨h2, fun _ H' => by simp only [stepB, opA, hc, h1, Option.map_some], fun t p he => by cases he⟩
    · cases h
  | build t ps => simp only [stepB, opA] at h; obtain ⟨h1, h2⟩ := mk h; exact ⟨h2, fun _ H' => by simp only [stepB, opA, h1, Option.map_some], fun t p he => by cases he⟩
  | buildSlice t len ps => simp only [stepB, opA] at h; obtain ⟨h1, h2⟩ := mk h; exact ⟨h2, fun _ H' => by simp only [stepB, opA, h1, Option.map_some], fun t p he => by cases he⟩
  | binOp op t x y u => simp only [stepB, opA] at h; obtain ⟨h1, h2⟩ := mk h; exact ⟨h2, fun _ H' => by simp only [stepB, opA, h1, Option.map_some], fun t p he => by cases he⟩
  | unOp op t x => simp only [stepB, opA] at h; obtain ⟨h1, h2⟩ := mk h; exact ⟨h2, fun _ H' => by simp only [stepB, opA, h1, Option.map_some], fun t p he => by cases he⟩
  | convert s d x => simp only [stepB, opA] at h; obtain ⟨h1, h2⟩ := mk h; exact ⟨h2, fun _ H' => by simp only [stepB, opA, h1, Option.map_some], fun t p he => by cases he⟩
  | slice t x lo hi mx => simp only [stepB, opA] at h; obtain ⟨h1, h2⟩ := mk h; exact ⟨h2, fun _ H' => by simp only [stepB, opA, h1, Option.map_some], fun t p he => by cases he⟩
  | fieldAddr t x f => simp only [stepB, opA] at h; obtain ⟨h1, h2⟩ := mk h; exact ⟨h2, fun _ H' => by simp only [stepB, opA, h1, Option.map_some], fun t p he => by cases he⟩
  | field t x f => simp only [stepB, opA] at h; obtain ⟨h1, h2⟩ := mk h; exact ⟨h2, fun _ H' => by simp only [stepB, opA, h1, Option.map_some], fun t p he => by cases he⟩
  | indexAddr t x y => simp only [stepB, opA] at h; obtain ⟨h1, h2⟩ := mk h; exact ⟨h2, fun _ H' => by simp only [stepB, opA, h1, Option.map_some], fun t p he => by cases he⟩
  | index t x y => simp only [stepB, opA] at h; obtain ⟨h1, h2⟩ := mk h; exact ⟨h2, fun _ H' => by simp only [stepB, opA, h1, Option.map_some], fun t p he => by cases he⟩
  | _ => simp [pureOp, buildOp] at hp
theorem sliceM_heap {H H1 : Heap} {t : TypeId} {a v : AV} {lo hi mx : Option AV} (h : sliceM P H t a lo hi mx = some (v, H1)) : H1 = H ∧ ∃ j off, a = .ptr j off := by
 unfold sliceM at h
 split at h
 ·rename_i len el j off hu
  obtain ⟨n, hn, h⟩ := xoB.1 h
  obtain ⟨g, hg, h⟩ := xoB.1 h
  obtain ⟨cs, hj, h⟩ := xoB.1 h
  split at h
  ·obtain ⟨b, hb, h⟩ := xoB.1 h
   obtain ⟨c, hc, h⟩ := xoB.1 h
   injection h with h; injection h with h1 h2
   exact ⟨h2.symm, j, off, rfl⟩
  ·cases h
 ·cases h
theorem sliceM_same {H H1 H2 : Heap} {t : TypeId} {j off : Nat} {v r : AV} {lo hi mx : Option AV} (h : sliceM P H t (.ptr j off) lo hi mx = some (v, H1)) (h2 : loadA P H2 t (.ptr j off) = some r) : sliceM P H2 t (.ptr j off) lo hi mx = some (v, H2) := by
 unfold sliceM at h ⊢
 split at h
 ·rename_i len el j' off' hu heq
  injection heq with e1 e2
  subst e1 e2
  obtain ⟨n, hn, h⟩ := xoB.1 h
  obtain ⟨g, hg, h⟩ := xoB.1 h
  obtain ⟨cs, hj, h⟩ := xoB.1 h
  split at h
  ·rename_i hc
   obtain ⟨c1, c2, c3, c4, c5⟩ := hc
   obtain ⟨b, hb, h⟩ := xoB.1 h
   obtain ⟨c, hc, h⟩ := xoB.1 h
   injection h with h; injection h with h1 h3
   unfold loadA at h2
   simp only at h2
   obtain ⟨ds, hds, h2⟩ := xoB.1 h2
   split at h2
   ·rename_i hpl
    unfold partA at h2
    have hag : isAggT P t = some true := by unfold isAggT; rw [hu]; rfl
    rw [hag, c5] at h2
    simp only at h2
    split at h2
    ·rename_i hle
     simp only [hu, hn, hg, hds, Option.bind_some]
     rw [if_pos ⟨c1, hpl, hle, c4, c5⟩, hb]
     simp only [Option.bind_some]
     rw [hc]
     simp only [Option.bind_some]
     rw [h1]
    ·cases h2
   ·cases h2
  ·cases h
 ·cases h
theorem muSl_spec {o : Oper} (h : muSl C o = true) : C.isMu o.dst = true ∧ C.isTk o.dst = false ∧ ∃ t x lo hi mx, o.op = .slice t x lo hi mx := by
 unfold muSl at h
 simp only [Bool.and_eq_true, Bool.not_eq_true'] at h
 obtain ⟨⟨h1, h2⟩, h3⟩ := h
 refine ⟨h1, h2, ?_⟩
 split at h3
 ·rename_i t x lo hi mx hop; exact ⟨t, x, lo, hi, mx, hop⟩
 ·cases h3
theorem stepA_slice {e : Env} {H : Heap} {d : Option Nat} {t : TypeId} {x : Operand} {lo hi mx : Option Operand} (h1 : C.isMu d = true) (h2 : C.isTk d = false) : stepA P C call d e H (.slice t x lo hi mx) = sliceM P H t (ev e x) (lo.map (ev e)) (hi.map (ev e)) (mx.map (ev e)) := by
 unfold stepA
 rw [if_pos (by unfold Cfg.spec; rw [h1]; rfl), if_neg (by rw [h2]; simp)]
 rfl
theorem hasE_some {i j : Nat} (h : hasE all i j = true) : ∃ o, all[i]? = some o ∧ ∃ e ∈ o.after, Region.binds .any e = true ∧ e.on = j := by
 unfold hasE at h
 cases ho : all[i]? with
 | none => rw [ho] at h; cases h
 | some o =>
  rw [ho] at h
  simp only [Option.map_some, Option.getD_some] at h
  obtain ⟨e, he, hb⟩ := Array.any_eq_true'.1 h
  simp only [Bool.and_eq_true, beq_iff_eq] at hb
  exact ⟨o, rfl, e, he, hb.1, hb.2⟩
structure Drw (C : Cfg) (all : Array Oper) : Prop where
 spc : ∀ (i : Nat) (o : Oper), all[i]? = some o → pureE o = true → C.spec o.dst o.op = false ∨ muSl C o = true
 cls : ∀ (i : Nat) (o : Oper), all[i]? = some o → (effE all o = true ∨ pureE o = true) ∧ ∀ e ∈ o.after, Region.binds .any e = true → e.on < i
 dist : ∀ (i j : Nat) (o o' : Oper) (t : Nat), all[i]? = some o → all[j]? = some o' → o.dst = some t → o'.dst = some t → i = j
 look : ∀ (i j : Nat) (o o' : Oper) (t : Nat), all[i]? = some o → all[j]? = some o' → t ∈ looksE all o → o'.dst = some t → hasE all i j = true ∨ hasE all j i = true
 chain : ∀ (i j : Nat) (o o' : Oper), all[i]? = some o → all[j]? = some o' → effE all o = true → alO o.op = false → effE all o' = true → j < i → ∃ k o'', all[k]? = some o'' ∧ effE all o'' = true ∧ j ≤ k ∧ k < i ∧ reachE all 9 i k = true ∧ (k = j ∨ alO o''.op = false)
 al : ∀ (i : Nat) (o : Oper), all[i]? = some o → alO o.op = true → o.guard = none ∧ ∃ d, o.dst = some d
 alk : ∀ (i j : Nat) (o o' : Oper) (t : Nat), all[i]? = some o → all[j]? = some o' → t ∈ looksE all o → alO o'.op = true → o'.dst = some t → effE all o = true ∧ alO o.op = false ∧ hasE all i j = true
theorem mem_zip {i : Nat} {o : Oper} (h : all[i]? = some o) : (o, i) ∈ all.toList.zipIdx := by
 rw [List.mem_zipIdx_iff_getElem?]
 simpa using h
theorem drwOK_spec (h' : (drwOK all && nospec C all) = true) : Drw C all := by
 obtain ⟨h, hs⟩ := Bool.and_eq_true_iff.1 h'
 unfold drwOK at h
 simp only [Bool.and_eq_true, List.all_eq_true, Bool.or_eq_true, decide_eq_true_eq] at h
 obtain ⟨⟨⟨⟨⟨h1, h2⟩, h3⟩, h4⟩, h5'⟩, h6'⟩ := h
 refine ⟨fun i o ho hp => ?_, fun i o ho => ?_, fun i j o o' t ho ho' hd hd' => ?_, fun i j o o' t ho ho' ht hd => ?_, fun i j o o' ho ho' he hal he' hlt => ?_, fun i o ho hal => ?_, fun i j o o' t ho ho' ht hal hd => ?_⟩
 ·unfold nospec at hs
  have := List.all_eq_true.1 hs o (by simpa using Array.mem_of_getElem? ho)
  rw [hp] at this
  simpa using this
 ·obtain ⟨a, b⟩ := h1 _ (mem_zip ho)
  refine ⟨a, fun e he hb => ?_⟩
  have := Array.all_eq_true_iff_forall_mem.1 b e he
  simpa [hb] using this
 ·unfold List.Nodup at h2
  rw [List.pairwise_filterMap] at h2
  rw [List.pairwise_iff_getElem] at h2
  have hi : i < all.toList.length := by simpa using (Array.getElem?_eq_some_iff.1 ho).1
  have hj : j < all.toList.length := by simpa using (Array.getElem?_eq_some_iff.1 ho').1
  have hio : all.toList[i] = o := by
   have := (Array.getElem?_eq_some_iff.1 ho).2
   simpa using this
  have hjo : all.toList[j] = o' := by
   have := (Array.getElem?_eq_some_iff.1 ho').2
   simpa using this
  rcases Nat.lt_trichotomy i j with h | h | h
  ·exact absurd rfl (h2 i j hi hj h t (by rw [hio]; exact hd) t (by rw [hjo]; exact hd'))
  ·exact h
  ·exact absurd rfl (h2 j i hj hi h t (by rw [hjo]; exact hd') t (by rw [hio]; exact hd))
 ·rcases h3 _ (mem_zip ho) t ht _ (mem_zip ho') with (h5 | h5) | h5
  ·simp [hd] at h5
  ·exact .inl h5
  ·exact .inr h5
 ·rcases h4 _ (mem_zip ho) with (h5 | h5) | h5
  ·simp [he] at h5
  ·rw [hal] at h5; cases h5
  ·rcases h5 _ (mem_zip ho') with (h6 | h6) | h6
   ·simp [he'] at h6
   ·simp at h6; omega
   ·obtain ⟨⟨o'', k⟩, hk, hb⟩ := List.any_eq_true.1 h6
    simp only [Bool.and_eq_true, Bool.or_eq_true, decide_eq_true_eq] at hb
    have hk' := List.mem_zipIdx_iff_getElem?.1 hk
    exact ⟨k, o'', by simpa using hk', hb.1.1.1.1, hb.1.1.1.2, hb.1.1.2, hb.1.2, hb.2.imp id (by simp)⟩
 ·rcases h5' _ (mem_zip ho) with h | h
  ·simp [hal] at h
  ·exact ⟨by simpa using h.1, Option.isSome_iff_exists.1 h.2⟩
 ·rcases h6' _ (mem_zip ho) t ht _ (mem_zip ho') with h | h
  ·simp [hal, hd] at h
  ·exact ⟨h.1.1, by simpa using h.1.2, h.2⟩
theorem al_eff {o : Oper} (h : alO o.op = true) : effE all o = true := by
 unfold effE
 obtain ⟨d, op, t, p, a, g⟩ := o
 cases op <;> simp_all [alO, effOp, buildOp]
theorem al_spec {o : Oper} (h : alO o.op = true) : C.spec o.dst o.op = false := by
 obtain ⟨d, op, t, p, a, g⟩ := o
 cases op <;> simp_all [alO, Cfg.spec, muOp, fzOp, tkOp]
def allocZ (P : Program) (e : Env) : Op → Option (List AV)
 | .alloc t => zeroA P t
 | .box _ x => if (evX e x).cells.all AV.one = true then some (evX e x).cells else none
 | _ => none
theorem al_step {e : Env} {H H1 : Heap} {o : Oper} {v : AV} (h : alO o.op = true) (hs : stepA P C call o.dst e H o.op = some (v, H1)) : ∃ z, allocZ P e o.op = some z ∧ v = .ptr H.length 0 ∧ H1 = H ++ [z] := by
 rw [stepA_pure (al_spec h)] at hs
 obtain ⟨d, op, t, p, a, g⟩ := o
 cases op <;> first | (simp [alO] at h; done) | skip
 ·rename_i ty
  simp only [stepB, opA] at hs
  obtain ⟨z, hz, hs⟩ := xoM.1 hs
  injection hs with h1 h2
  exact ⟨z, hz, h1.symm, h2.symm⟩
 ·rename_i ty x
  simp only [stepB, opA] at hs
  split at hs
  ·rename_i hc
   injection hs with hs; injection hs with h1 h2
   exact ⟨_, by simp only [allocZ]; rw [if_pos hc], h1.symm, h2.symm⟩
  ·cases hs
theorem allocZ_congr {e e' : Env} {o : Op} (h : ∀ x ∈ o.operands, evX e x = evX e' x) : allocZ P e o = allocZ P e' o := by
 cases o <;> first | rfl | skip
 rename_i t x
 simp only [allocZ]
 rw [h x (by simp [Op.operands])]
end
end Go.Lv
set_option linter.unusedVariables false
set_option linter.unusedSimpArgs false
namespace Go.Lv
section
variable {P : Program} {C : Cfg} {call : CallF} {all : Array Oper} {G : Nat → Prop} {F0 : Facts} {L0 : List Nat} {w0 : World} {N : Nat} {E : Nat → Env} {Hs : Nat → Heap} {V : Nat → AV}
abbrev Tr (P : Program) (C : Cfg) (call : CallF) (all : Array Oper) (E : Nat → Env) (Hs : Nat → Heap) (V : Nat → AV) : Prop := Trace P C call all 0 all.toList {} E Hs V
theorem Tr.at_ (T : Tr P C call all E Hs V) {i : Nat} {o : Oper} (h : all[i]? = some o) : StepT P C call all E Hs V i o := by
 have := T.step i o (by simpa using h)
 rwa [Nat.zero_add] at this
theorem Tr.env (T : Tr P C call all E Hs V) {i : Nat} {o : Oper} (h : all[i]? = some o) : E (i + 1) = put (E i) o.dst (V i) := by
 rcases (T.at_ h).out with h1 | h1
 ·exact h1.2.2.2
 ·exact h1.2.2
theorem Tr.hit (T : Tr P C call all E Hs V) (hD : Drw C all) {j : Nat} {o : Oper} {t : Nat} (hj : all[j]? = some o) (ht : o.dst = some t) : ∀ i, j < i → i ≤ all.size → E i t = V j := by
 intro i
 induction i with
 | zero => intro h; omega
 | succ i ih =>
  intro h hi
  have hio : all[i]? = some all[i] := by simp
  rw [T.env hio, put_apply]
  by_cases he : all[i].dst = some t
  ·rw [if_pos he, hD.dist j i o _ t hj hio ht he]
  ·rw [if_neg he]
   rcases Nat.lt_or_ge j i with h1 | h1
   ·exact ih h1 (by omega)
   ·have : j = i := by omega
    subst this
    rw [hio] at hj
    injection hj with hj
    exact absurd (hj ▸ ht) he
theorem Tr.miss (T : Tr P C call all E Hs V) {t : Nat} : ∀ i, i ≤ all.size → (∀ (j : Nat) (o : Oper), j < i → all[j]? = some o → o.dst ≠ some t) → E i t = E 0 t := by
 intro i
 induction i with
 | zero => intro _ _; rfl
 | succ i ih =>
  intro hi h
  have hio : all[i]? = some all[i] := by simp
  rw [T.env hio, put_apply, if_neg (h i _ (by omega) hio)]
  exact ih (by omega) (fun j o hj => h j o (by omega))
theorem Tr.heap (T : Tr P C call all E Hs V) (hD : Drw C all) {i : Nat} {o : Oper} (h : all[i]? = some o) (hn : ¬ (effE all o = true ∧ wants all (E i) o = some true)) : Hs (i + 1) = Hs i := by
 rcases (T.at_ h).out with ⟨h1, h2, h3, h4⟩ | ⟨h1, h2, h3⟩
 ·exact h3
 ·rcases (hD.cls i o h).1 with he | hp
  ·exact absurd ⟨he, h1⟩ hn
  ·rcases hD.spc i o h hp with hs | hs
   ·rw [stepA_pure hs] at h2; exact (pure_heap hp h2).1
   ·obtain ⟨m1, m2, t, x, lo, hi', mx, hop⟩ := muSl_spec hs
    rw [hop, stepA_slice m1 m2] at h2
    exact (sliceM_heap h2).1
theorem Tr.same (T : Tr P C call all E Hs V) (hD : Drw C all) {a : Nat} : ∀ b, a ≤ b → b ≤ all.size → (∀ (j : Nat) (o : Oper), a ≤ j → j < b → all[j]? = some o → effE all o = false) → Hs b = Hs a := by
  intro b
  induction b with
  | zero => intro h _ _; have : a = 0 := by omega
            subst this; rfl
  | succ b ih =>
    intro h hb hall
    rcases Nat.lt_or_ge b a with h1 | h1
    · have : a = b + 1 := by omega
      subst this; rfl
    · have hbo : all[b]? = some all[b] := by simp
      rw [T.heap hD hbo (fun hh => by rw [hall b _ h1 (by omega) hbo] at hh; cases hh.1)]
      exact ih h1 (by omega) (fun j o h2 h3 => hall j o h2 (by omega))
def Closed (all : Array Oper) (D : Nat → Prop) : Prop := ∀ i, D i → ∀ j, hasE all i j = true → D j
theorem reach_closed {D : Nat → Prop} (hc : Closed all D) : ∀ (k i j : Nat), reachE all k i j = true → (∀ x, hasE all i x = true → D x) → D j := by
 intro k
 induction k with
 | zero => intro i j h; cases h
 | succ k ih =>
  intro i j h hi
  simp only [reachE, Bool.or_eq_true] at h
  rcases h with h | h
  ·exact hi j h
  ·cases ho : all[i]? with
   | none => rw [ho] at h; cases h
   | some o =>
    rw [ho] at h
    simp only [Option.map_some, Option.getD_some] at h
    obtain ⟨e, he, hb⟩ := Array.any_eq_true'.1 h
    simp only [Bool.and_eq_true] at hb
    have hx : hasE all i e.on = true := by
     unfold hasE
     rw [ho]
     simp only [Option.map_some, Option.getD_some]
     exact Array.any_eq_true'.2 ⟨e, he, by simp [hb.1]⟩
    exact ih e.on j hb.2 (fun x hxx => hc _ (hi _ hx) x hxx)
theorem chain_closed {D : Nat → Prop} (hD : Drw C all) (hc : Closed all D) : ∀ (i : Nat) (o : Oper), all[i]? = some o → effE all o = true → alO o.op = false → (∀ x, hasE all i x = true → D x) → ∀ (j : Nat) (o' : Oper), all[j]? = some o' → effE all o' = true → j < i → D j := by
 intro i
 induction i using Nat.strongRecOn with
 | _ i ih =>
  intro o ho he hal hi j o' hj hej hlt
  obtain ⟨k, o'', hk, hek, h1, h2, h3, h5⟩ := hD.chain i j o o' ho hj he hal hej hlt
  have hDk := reach_closed hc 9 i k h3 hi
  rcases h5 with h5 | h5
  ·exact h5 ▸ hDk
  rcases Nat.eq_or_lt_of_le h1 with h4 | h4
  ·exact h4 ▸ hDk
  ·exact ih k h2 o'' hk hek h5 (fun x hx => hc k hDk x hx) j o' hj hej h4
structure EnvD (all : Array Oper) (E : Nat → Env) (V : Nat → AV) (D : Nat → Prop) (p : Nat) (e : Env) : Prop where
 hit : ∀ (j : Nat) (o : Oper) t, all[j]? = some o → D j → ¬ (alO o.op = true ∧ p ≤ j) → o.dst = some t → e t = V j
 miss : ∀ t, (∀ (j : Nat) (o : Oper), all[j]? = some o → D j → o.dst ≠ some t) → (∀ (j : Nat) (o : Oper), all[j]? = some o → alO o.op = true → o.dst ≠ some t) → e t = E 0 t
theorem EnvD.step {D : Nat → Prop} {p : Nat} {e : Env} (h : EnvD all E V D p e) (hD : Drw C all) {i : Nat} {o : Oper} (hi : all[i]? = some o) : EnvD all E V (fun j => D j ∨ j = i) p (put e o.dst (V i)) := by
 refine ⟨fun j o' t hj hDj hna ht => ?_, fun t ht hal => ?_⟩
 ·rw [put_apply]
  by_cases he : o.dst = some t
  ·rw [if_pos he, hD.dist i j o o' t hi hj he ht]
  ·rw [if_neg he]
   rcases hDj with h1 | h1
   ·exact h.hit j o' t hj h1 hna ht
   ·subst h1
    rw [hi] at hj
    injection hj with hj
    exact absurd (hj ▸ ht) he
 ·rw [put_apply, if_neg (ht i o hi (.inr rfl))]
  exact h.miss t (fun j o' hj hDj => ht j o' hj (.inl hDj)) hal
theorem EnvD.early {D : Nat → Prop} {p : Nat} {e : Env} (h : EnvD all E V D p e) (hD : Drw C all) {i : Nat} {o : Oper} (hi : all[i]? = some o) (hal : alO o.op = true) (hp : p ≤ i) (u : AV) : EnvD all E V (fun j => D j ∨ j = i) p (put e o.dst u) := by
 refine ⟨fun j o' t hj hDj hna ht => ?_, fun t ht hno => ?_⟩
 ·rw [put_apply]
  by_cases he : o.dst = some t
  ·have := hD.dist i j o o' t hi hj he ht
   subst this
   rw [hi] at hj; injection hj with hj
   exact absurd ⟨hj ▸ hal, hp⟩ hna
  ·rw [if_neg he]
   rcases hDj with h1 | h1
   ·exact h.hit j o' t hj h1 hna ht
   ·subst h1
    rw [hi] at hj
    injection hj with hj
    exact absurd (hj ▸ ht) he
 ·rw [put_apply, if_neg (hno i o hi hal)]
  exact h.miss t (fun j o' hj hDj => ht j o' hj (.inl hDj)) hno
theorem EnvD.late {D : Nat → Prop} {p : Nat} {e : Env} (h : EnvD all E V D p e) (hD : Drw C all) {o : Oper} (hi : all[p]? = some o) : EnvD all E V D (p + 1) (if alO o.op = true then put e o.dst (V p) else e) := by
 have key : ∀ j o', all[j]? = some o' → ¬ (alO o'.op = true ∧ p + 1 ≤ j) → j ≠ p → ¬ (alO o'.op = true ∧ p ≤ j) := fun j o' hj hna hne hh => hna ⟨hh.1, by omega⟩
 by_cases hal : alO o.op = true
 ·rw [if_pos hal]
  refine ⟨fun j o' t hj hDj hna ht => ?_, fun t ht hno => ?_⟩
  ·rw [put_apply]
   by_cases he : o.dst = some t
   ·rw [if_pos he, hD.dist p j o o' t hi hj he ht]
   ·rw [if_neg he]
    have hne : j ≠ p := by
     rintro rfl
     rw [hi] at hj; injection hj with hj
     exact he (hj ▸ ht)
    exact h.hit j o' t hj hDj (key j o' hj hna hne) ht
  ·rw [put_apply, if_neg (hno p o hi hal)]
   exact h.miss t ht hno
 ·rw [if_neg hal]
  refine ⟨fun j o' t hj hDj hna ht => ?_, h.miss⟩
  by_cases hne : j = p
  ·subst hne
   rw [hi] at hj; injection hj with hj
   exact h.hit j o t hi hDj (fun hh => hal hh.1) (hj ▸ ht)
  ·exact h.hit j o' t hj hDj (key j o' hj hna hne) ht
theorem EnvD.look {D : Nat → Prop} {p : Nat} {e : Env} (h : EnvD all E V D p e) (T : Tr P C call all E Hs V) (hD : Drw C all) (hc : Closed all D) {i : Nat} {o : Oper} (hi : all[i]? = some o) (hr : ∀ x, hasE all i x = true → D x) (hn : ¬ D i) (hp : effE all o = true → alO o.op = false → i ≤ p) {t : Nat} (ht : t ∈ looksE all o) : e t = E i t := by
 have hil : i < all.size := (Array.getElem?_eq_some_iff.1 hi).1
 by_cases hx : ∃ (j : Nat) (o' : Oper), all[j]? = some o' ∧ o'.dst = some t
 ·obtain ⟨j, o', hj, hd⟩ := hx
  have fwd : hasE all i j = true → e t = E i t := by
   intro h1
   obtain ⟨o'', ho'', ed, hed, hbd, hon⟩ := hasE_some h1
   rw [hi] at ho''
   injection ho'' with ho''
   subst ho''
   have hlt : j < i := hon ▸ (hD.cls i o hi).2 ed hed hbd
   have hna : ¬ (alO o'.op = true ∧ p ≤ j) := by
    rintro ⟨ha, hpj⟩
    obtain ⟨k1, k2, _⟩ := hD.alk i j o o' t hi hj ht ha hd
    have := hp k1 k2
    omega
   rw [h.hit j o' t hj (hr j h1) hna hd, T.hit hD hj hd i hlt (by omega)]
  by_cases hal : alO o'.op = true
  ·exact fwd (hD.alk i j o o' t hi hj ht hal hd).2.2
  rcases hD.look i j o o' t hi hj ht hd with h1 | h1
  ·exact fwd h1
  ·obtain ⟨o'', ho'', ed, hed, hbd, hon⟩ := hasE_some h1
   have hlt : i < j := by
    have := (hD.cls j o'' ho'').2 ed hed hbd
    omega
   have hnD : ¬ D j := fun hDj => hn (hc j hDj i h1)
   rw [h.miss t (fun k ok hk hDk hdk => hnD (hD.dist k j ok o' t hk hj hdk hd ▸ hDk)) (fun k ok hk hka hdk => by
    have := hD.dist k j ok o' t hk hj hdk hd
    subst this
    rw [hj] at hk; injection hk with hk
    exact hal (hk ▸ hka)), T.miss i (by omega) (fun k ok hki hk hdk => by
    have := hD.dist k j ok o' t hk hj hdk hd
    omega)]
 ·have hx' : ∀ (j : Nat) (o' : Oper), all[j]? = some o' → o'.dst ≠ some t := fun j o' hj hd => hx ⟨j, o', hj, hd⟩
  rw [h.miss t (fun j o' hj _ => hx' j o' hj) (fun j o' hj _ => hx' j o' hj), T.miss i (by omega) (fun j o' _ hj => hx' j o' hj)]
theorem looks_op {o : Oper} {x : Operand} (hx : x ∈ o.op.operands) {t : Nat} (ht : x = .tmp t) : t ∈ looksE all o := by
 unfold looksE
 refine List.mem_append_left _ (List.mem_filterMap.2 ⟨x, by simpa using hx, by rw [ht]⟩)
theorem wants_congr {e e' : Env} {o : Oper} (h : ∀ t ∈ looksE all o, e t = e' t) : wants all e o = wants all e' o := by
 unfold wants
 split
 ·rfl
 ·rename_i g want hg
  split
  ·rename_i d hd
   rw [h d (by unfold looksE; refine List.mem_append_right _ ?_; rw [hg]; simp [hd])]
  ·rfl
theorem read_any (T : Tr P C call all E Hs V) (hD : Drw C all) {D : Nat → Prop} (hc : Closed all D) {p i : Nat} (hp : p ≤ all.size) (hthr : ∀ (j : Nat) (o : Oper), all[j]? = some o → effE all o = true → (D j → alO o.op = false → j < p) ∧ (j < p → D j)) {o : Oper} (hi : all[i]? = some o)
    (hr : ∀ x, hasE all i x = true → D x) (hn : ¬ D i) {r : TypeId × AV × AV} (hrd : rdO P (E i) (Hs i) o.op (V i) = some r) (hne0 : effE all o = false) (hw : wants all (E i) o = some true) (hat : loadA P (Hs i) r.1 r.2.1 = some r.2.2) : loadA P (Hs p) r.1 r.2.1 = some r.2.2 := by
  have hil : i < all.size := (Array.getElem?_eq_some_iff.1 hi).1
  rcases Nat.le_total p i with hpi | hpi
  · have key : ∀ d q, q + d = i → p ≤ q → loadA P (Hs q) r.1 r.2.1 = some r.2.2 := by
      intro d
      induction d with
      | zero => intro q hq _; have : q = i := by omega
                subst this; exact hat
      | succ d ih =>
        intro q hq hpq
        have hqo : all[q]? = some all[q] := by simp
        by_cases hh : effE all all[q] = true ∧ wants all (E q) all[q] = some true
        · have := T.early i o r (by simpa using hi) (by simpa using hrd) (by simpa using hw) q all[q] (by omega) (by simp) (effE_eff hh.1) (by simpa using hh.2)
          simp only [Nat.zero_add] at this
          rcases this with h1 | h1
          · unfold reachL at h1
            obtain ⟨h1, h2⟩ := Bool.and_eq_true_iff.1 h1
            have hDq := reach_closed hc 8 i q h1 hr
            have := (hthr q _ hqo hh.1).1 hDq (by simpa [hqo] using h2)
            omega
          · exact h1
        · rw [← T.heap hD hqo hh]
          exact ih (q + 1) (by omega) (by omega)
    exact key (i - p) p (by omega) (Nat.le_refl _)
  · have key : ∀ d, i + d ≤ p → loadA P (Hs (i + d)) r.1 r.2.1 = some r.2.2 := by
      intro d
      induction d with
      | zero => intro _; exact hat
      | succ d ih =>
        intro hd
        have hq : i + d < all.size := by omega
        have hqo : all[i + d]? = some all[i + d] := by simp
        by_cases hh : effE all all[i + d] = true ∧ wants all (E (i + d)) all[i + d] = some true
        · have hne : d ≠ 0 := by
            rintro rfl
            simp only [Nat.add_zero] at hqo hh
            rw [hi] at hqo
            injection hqo with hqo
            rw [← hqo, hne0] at hh
            cases hh.1
          have := T.late i o r (by simpa using hi) (by simpa using hrd) (by simpa using hw) (i + d) all[i + d] (by omega) (by simp) (effE_eff hh.1) (by simpa using hh.2)
          simp only [Nat.zero_add] at this
          rcases this with h1 | h1
          · have hDq := (hthr (i + d) _ hqo hh.1).2 (by omega)
            exact absurd (reach_closed hc 8 (i + d) i h1 (fun y hy => hc _ hDq y hy)) hn
          · exact h1
        · rw [show i + (d + 1) = i + d + 1 by omega, T.heap hD hqo hh]
          exact ih (by omega)
    have := key (p - i) (by omega)
    rwa [show i + (p - i) = p by omega] at this
theorem load_any (T : Tr P C call all E Hs V) (hD : Drw C all) {D : Nat → Prop} (hc : Closed all D) {p i : Nat} (hp : p ≤ all.size) (hthr : ∀ (j : Nat) (o : Oper), all[j]? = some o → effE all o = true → (D j → alO o.op = false → j < p) ∧ (j < p → D j)) {o : Oper} (hi : all[i]? = some o)
  (hr : ∀ x, hasE all i x = true → D x) (hn : ¬ D i) {t : TypeId} {x : Operand} (hop : o.op = .load t x) (hw : wants all (E i) o = some true) : loadA P (Hs p) t (ev (E i) x) = some (V i) := by
 have hat : loadA P (Hs i) t (ev (E i) x) = some (V i) := by
  rcases (T.at_ hi).out with ⟨h1, _⟩ | ⟨h1, h2, h3⟩
  ·rw [hw] at h1; cases h1
  ·have hpu : pureE o = true := by unfold pureE; rw [hop]; rfl
   rcases hD.spc i o hi hpu with hs | hs
   ·rw [stepA_pure hs] at h2; exact (pure_heap hpu h2).2.2 t x hop
   ·obtain ⟨_, _, _, _, _, _, _, hop'⟩ := muSl_spec hs
    rw [hop] at hop'; cases hop'
 exact read_any T hD hc hp hthr hi hr hn (r := (t, ev (E i) x, V i)) (by rw [hop]; rfl) (effE_not (by rw [hop]; rfl)) hw hat
theorem slice_any (T : Tr P C call all E Hs V) (hD : Drw C all) {D : Nat → Prop} (hc : Closed all D) {p i : Nat} (hp : p ≤ all.size) (hthr : ∀ (j : Nat) (o : Oper), all[j]? = some o → effE all o = true → (D j → alO o.op = false → j < p) ∧ (j < p → D j)) {o : Oper} (hi : all[i]? = some o)
  (hr : ∀ x, hasE all i x = true → D x) (hn : ¬ D i) (hm : muSl C o = true) (hw : wants all (E i) o = some true) : stepA P C call o.dst (E i) (Hs p) o.op = some (V i, Hs p) := by
 obtain ⟨m1, m2, t, x, lo, hi', mx, hop⟩ := muSl_spec hm
 rcases (T.at_ hi).out with ⟨h1, _⟩ | ⟨h1, h2, h3⟩
 ·rw [hw] at h1; cases h1
 rw [hop, stepA_slice m1 m2] at h2
 obtain ⟨_, j, off, hx⟩ := sliceM_heap h2
 obtain ⟨v, hv⟩ := T.sl i o t x lo hi' mx j off (by simpa using hi) hop (by simpa using hx) (by simpa using hw)
 simp only [Nat.zero_add] at hv
 have := read_any T hD hc hp hthr hi hr hn (r := (t, .ptr j off, v)) (by rw [hop]; simp only [rdO, hx, hv, Option.map_some]) (effE_not (by rw [hop]; rfl)) hw hv
 rw [hop, stepA_slice m1 m2, hx]
 rw [hx] at h2
 exact sliceM_same h2 this
end
end Go.Lv
set_option linter.unusedVariables false
set_option linter.unusedSimpArgs false
namespace Go.Lv
section
variable {P : Program} {C : Cfg} {call : CallF} {all : Array Oper} {G : Nat → Prop} {F0 : Facts} {L0 : List Nat} {w0 : World} {N : Nat} {E : Nat → Env} {Hs : Nat → Heap} {V : Nat → AV}
theorem chkEffs_at : ∀ (os : List Oper) (i : Nat) (O O' : OSet), chkEffs P C N all i os O = some O' → ∃ Oat : Nat → OSet, Oat i = O ∧ Oat (i + os.length) = O' ∧
  ∀ (k : Nat) (o : Oper), os[k]? = some o → (∀ d, o.dst = some d → d < N) ∧ (effE all o = true → ∃ A', chkOp P C N o (Oat (i + k)) (aliasE all (i + k)) = some (Oat (i + k + 1), A')) ∧ (effE all o = false → Oat (i + k + 1) = Oat (i + k)) := by
 intro os
 induction os with
 | nil => intro i O O' h; simp only [chkEffs] at h; injection h with h; subst h; exact ⟨fun _ => O, rfl, rfl, by simp⟩
 | cons o os ih =>
  intro i O O' h
  simp only [chkEffs] at h
  have glue : ∀ O1, chkEffs P C N all (i + 1) os O1 = some O' → ((∀ d, o.dst = some d → d < N) ∧ (effE all o = true → ∃ A', chkOp P C N o O (aliasE all i) = some (O1, A')) ∧ (effE all o = false → O1 = O)) →
    ∃ Oat : Nat → OSet, Oat i = O ∧ Oat (i + (o :: os).length) = O' ∧
    ∀ (k : Nat) (o' : Oper), (o :: os)[k]? = some o' → (∀ d, o'.dst = some d → d < N) ∧ (effE all o' = true → ∃ A', chkOp P C N o' (Oat (i + k)) (aliasE all (i + k)) = some (Oat (i + k + 1), A')) ∧ (effE all o' = false → Oat (i + k + 1) = Oat (i + k)) := by
   intro O1 h1 h2
   obtain ⟨Oat', e1, e2, e3⟩ := ih (i + 1) O1 O' h1
   refine ⟨fun j => if j = i then O else Oat' j, by simp, ?_, fun k o' hk => ?_⟩
   ·rw [List.length_cons]
    dsimp only
    rw [if_neg (by omega), show i + (os.length + 1) = i + 1 + os.length by omega, e2]
   ·cases k with
    | zero =>
     simp at hk
     subst hk
     simp only [Nat.add_zero, if_true]
     rw [if_neg (by omega), e1]
     exact h2
    | succ k =>
     have := e3 k o' (by simpa using hk)
     rw [show i + (k + 1) + 1 = i + 1 + k + 1 by omega, show i + (k + 1) = i + 1 + k by omega]
     dsimp only
     rw [if_neg (by omega), if_neg (by omega)]
     exact this
  split at h
  ·rename_i he
   obtain ⟨⟨O1, A1⟩, h1, h2⟩ := xoB.1 h
   exact glue O1 h2 ⟨(dst_lt h1).1, fun _ => ⟨A1, h1⟩, fun hf => by rw [he] at hf; cases hf⟩
  ·rename_i he
   split at h
   ·rename_i hd
    refine glue O h ⟨fun d hdd => ?_, fun hf => absurd hf he, fun _ => rfl⟩
    rw [hdd] at hd
    simpa [dstLt] using hd
   ·cases h
structure Own0 (P : Program) (C : Cfg) (N : Nat) (all : Array Oper) (Oat : Nat → OSet) : Prop where
 dst : ∀ (i : Nat) (o : Oper), all[i]? = some o → ∀ d, o.dst = some d → d < N
 eff : ∀ (i : Nat) (o : Oper), all[i]? = some o → effE all o = true → ∃ A', chkOp P C N o (Oat i) (aliasE all i) = some (Oat (i + 1), A')
 non : ∀ (i : Nat) (o : Oper), all[i]? = some o → effE all o = false → Oat (i + 1) = Oat i
 base : ∀ p ∈ Oat 0, ∀ (j : Nat) (o : Oper), all[j]? = some o → (effE all o = false ∨ alO o.op = true) → o.dst ≠ some p.1
theorem al_chk {o : Oper} (hal : alO o.op = true) {O O' : OSet} {A A' : List (Nat × Nat)} (h : chkOp P C N o O A = some (O', A')) : O' = killO o.dst O := by
 have h' := (dst_lt h).2
 obtain ⟨d, op, t, p, a, g⟩ := o
 cases op <;> first | (simp [alO] at hal; done) | skip
 all_goals
  unfold chkOp1 at h'
  simp only at h'
  split at h'
  ·injection h' with h'; injection h' with h1 h2; exact h1.symm
  ·injection h' with h'; injection h' with h1 h2; exact h1.symm
theorem Own0.nod {Oat : Nat → OSet} (h : Own0 P C N all Oat) (hD : Drw C all) : ∀ i, i ≤ all.size → ∀ p ∈ Oat i, ∀ (j : Nat) (o : Oper), all[j]? = some o → (effE all o = false ∨ alO o.op = true) → o.dst ≠ some p.1 := by
 intro i
 induction i with
 | zero => intro _; exact h.base
 | succ i ih =>
  intro hi p hp j o hj he hd
  have hio : all[i]? = some all[i] := by simp
  cases hf : effE all all[i] with
  | false =>
   rw [h.non i _ hio hf] at hp
   exact ih (by omega) p hp j o hj he hd
  | true =>
   obtain ⟨A', hA⟩ := h.eff i _ hio hf
   by_cases hal : alO all[i].op = true
   ·rw [al_chk hal hA] at hp
    exact ih (by omega) p (mem_killO hp).1 j o hj he hd
   ·obtain ⟨new, O1, h1, h2, h3, _⟩ := chkOp_shape (dst_lt hA).2
    rw [h1] at hp
    rcases List.mem_append.1 hp with hp | hp
    ·have := hD.dist i j _ o p.1 hio hj (h3 p hp) hd
     subst this
     rw [hio] at hj
     injection hj with hj
     rcases he with he | he
     ·rw [hj, he] at hf
      cases hf
     ·rw [hj] at hal; exact hal he
    ·exact ih (by omega) p (h2 p (mem_killO hp).1) j o hj he hd
theorem Own0.keep {Oat : Nat → OSet} (h : Own0 P C N all Oat) (hD : Drw C all) {i p : Nat} (hp : p ≤ all.size) {o : Oper} (hi : all[i]? = some o) (ho : effE all o = false ∨ alO o.op = true) : killO o.dst (Oat p) = Oat p := by
 cases hd : o.dst with
 | none => rfl
 | some d =>
  refine List.filter_eq_self.2 fun q hq => ?_
  have := h.nod hD p hp q hq i o hi ho
  rw [hd] at this
  simpa using fun he : q.1 = d => this (by rw [he])
theorem Own0.one {Oat : Nat → OSet} (h : Own0 P C N all Oat) (hD : Drw C all) {p : Nat} {o : Oper} (hp : all[p]? = some o) (ho : effE all o = false ∨ alO o.op = true) : Oat (p + 1) = Oat p := by
 have hpl : p < all.size := (Array.getElem?_eq_some_iff.1 hp).1
 cases he : effE all o with
 | false => exact h.non p o hp he
 | true =>
  obtain ⟨A', hA⟩ := h.eff p o hp he
  have hal : alO o.op = true := by
   rcases ho with ho | ho
   ·rw [he] at ho; cases ho
   ·exact ho
  rw [al_chk hal hA]
  exact h.keep hD (by omega) hp (.inr hal)
theorem Rel.near {F F' : Facts} {L L' : List Nat} (hF : ∀ B i v, F B i = some v → F' B i = some v) (hR : ∀ (j B : Nat), L[j]? = some B → F.room B ≤ F'.room B) (hL : ∀ (j B : Nat), L[j]? = some B → L'[j]? = some B) {a : AV} {v : Value} (h : Rel F L a v) : Rel F' L' a v := by
 induction h with
 | un v => exact .un v
 | sc x h => exact .sc x h
 | sl0 a cap h => exact .sl0 a cap h
 | sl xs B o len cap sz vals hl h0 hc hs hn hf hr ih => exact .sl xs B o len cap sz vals hl h0 hc hs hn (fun i k hi hk => hF _ _ _ (hf i k hi hk)) ih
 | agg xs arr hl hr ih => exact .agg xs arr hl ih
 | tup xs arr hl hr ih => exact .tup xs arr hl ih
 | fn f xs arr hl hr ih => exact .fn f xs arr hl ih
 | ptr j off B h => exact .ptr j off B (hL _ _ h)
 | ea e off B a vals hf hr ih => exact .ea e off B a vals (fun k hk => hF _ _ _ (hf k hk)) ih
 | mr j off len n cap B g h hc hn hr hx => exact .mr j off len n cap B g (hL _ _ h) hc hn (Nat.le_trans hr (hR _ B h)) hx
 | ow xs j B len cap sz vals h hl h0 hc hs hn hf hr hm hx ih => exact .ow xs j B len cap sz vals (hL _ _ h) hl h0 hc hs hn (fun i k hi hk => hF _ _ _ (hf i k hi hk)) ih (Nat.le_trans hm (hR _ B h)) hx
 | ow0 j a => exact .ow0 j a
 | mp j B h => exact .mp j B (hL _ _ h)
 | tk lo v => exact .tk lo v
 | mv ks vs v => exact .mv ks vs v
theorem St.absorb {F : Facts} {L : List Nat} {w : World} {H : Heap} (hS : St P F L NX w H) {B : Nat} {z : List AV} {arr : List Value} {t : TypeId} (hlt : B < w.heap.size) (hout : B ∉ L) (hnof : ∀ i, F B i = none) (hh : Holds w B arr t) (hl : z.length ≤ arr.length) (hr : ∀ (k : Nat) c, z[k]? = some c → Rel F L c (arr.getD k undef)) (hmv : isMv z = false) :
  ∃ F' : Facts, F'.get = F.get ∧ St P F' (L ++ [B]) NX w (H ++ [z]) ∧ (∀ a v, Rel F L a v → Rel F' (L ++ [B]) a v) ∧ ∀ b, b ≠ B → F'.room b = F.room b := by
 obtain ⟨F', hFg, hFr⟩ : ∃ F' : Facts, F'.get = F.get ∧ ∀ b, F'.room b = if b = B then z.length else F.room b := ⟨⟨F.get, fun b => if b = B then z.length else F.room b⟩, rfl, fun _ => rfl⟩
 have hget : ∀ b i, F' b i = F b i := fun b i => by rw [hFg]
 have hpre : ∀ (j b : Nat), L[j]? = some b → (L ++ [B])[j]? = some b := by
  intro j b h
  rw [xgL (xgI.1 h).1]
  exact h
 have hne : ∀ (j b : Nat), L[j]? = some b → b ≠ B := fun j b h e => hout (e ▸ mem_of_get h)
 have hrel : ∀ a v, Rel F L a v → Rel F' (L ++ [B]) a v := fun a v h => h.near (fun b i v h => by rw [hget]; exact h) (fun j b h => by rw [hFr, if_neg (hne j b h)]; exact Nat.le_refl _) hpre
 have old : ∀ (j : Nat) cs' b, (H ++ [z])[j]? = some cs' → (L ++ [B])[j]? = some b → (H[j]? = some cs' ∧ L[j]? = some b) ∨ (j = L.length ∧ cs' = z ∧ b = B) := by
  intro j cs' b hj hB
  rcases Nat.lt_or_ge j L.length with hjl | hjl
  ·rw [xgL hjl] at hB
   rw [xgL (hS.len ▸ hjl)] at hj
   exact .inl ⟨hj, hB⟩
  ·rw [xgR hjl] at hB
   rw [xgR (hS.len ▸ hjl)] at hj
   have h0 : j - L.length = 0 := by
    have := (xgI.1 hB).1
    simp at this
    omega
   rw [h0] at hB
   rw [← hS.len, h0] at hj
   simp at hB hj
   exact .inr ⟨by omega, hj.symm, hB.symm⟩
 refine ⟨F', hFg, ⟨fun b i v h => ?_, by simp [hS.len], fun j cs' b hj hne' hmv' hB => ?_, fun b hB => ?_, fun j cs' b hj hne' hB i hi => ?_, fun b hB h => h, fun i j cs1 cs2 b hi hn1 hj hn2 hBi hBj => ?_, fun b hB => hB.elim, fun b hB => ?_, fun j ks vs b hj hB => ?_, fun j cs' b hj hpl hB => ?_⟩, hrel, fun b hb => by rw [hFr, if_neg hb]⟩
 ·rw [hget] at h
  exact hS.mem _ _ _ h
 ·rcases old j cs' b hj hB with ⟨h1, h2⟩ | ⟨h1, rfl, rfl⟩
  ·obtain ⟨arr', t', h3, h4, h5, h6⟩ := hS.obj j cs' b h1 hne' hmv' h2
   exact ⟨arr', t', h3, h4, by rw [hFr, if_neg (hne j b h2)]; exact h5, fun k c hk => hrel _ _ (h6 k c hk)⟩
  ·exact ⟨arr, t, hh, hl, by rw [hFr, if_pos rfl]; exact hl, fun k c hk => hrel _ _ (hr k c hk)⟩
 ·rcases List.mem_append.1 hB with h | h
  ·exact hS.lt b h
  ·simp at h; omega
 ·rw [hget]
  rcases old j cs' b hj hB with ⟨h1, h2⟩ | ⟨h1, rfl, rfl⟩
  ·exact hS.nof j cs' b h1 hne' h2 i hi
  ·exact hnof i
 ·rcases old i cs1 b hi hBi with ⟨h1, h2⟩ | ⟨h1, h1', h1''⟩ <;> rcases old j cs2 b hj hBj with ⟨h3, h4⟩ | ⟨h3, h3', h3''⟩
  ·exact hS.inj i j cs1 cs2 b h1 hn1 h3 hn2 h2 h4
  ·exact absurd h3'' (hne i b h2)
  ·exact absurd h1'' (hne j b h4)
  ·omega
 ·rw [hFr, if_neg (by omega)]
  exact hS.room0 b hB
 ·rcases old j _ b hj hB with ⟨h1, h2⟩ | ⟨h1, h2, h3⟩
  ·obtain ⟨es, fs, clk, m1, hst, hpm, m2, m3, m4, m5⟩ := hS.mob j ks vs b h1 h2
   refine ⟨es, fs, clk, m1, hst, hpm, m2, m3, fun i k hk => ?_, fun i v hv => ?_⟩
   ·obtain ⟨e, he, hr'⟩ := m4 i k hk
    exact ⟨e, he, hrel _ _ hr'⟩
   ·obtain ⟨e, he, hr'⟩ := m5 i v hv
    exact ⟨e, he, hrel _ _ hr'⟩
  ·rw [← h2] at hmv; cases hmv
 ·rcases old j cs' b hj hB with ⟨h1, h2⟩ | ⟨h1, rfl, rfl⟩
  ·rw [hFr, if_neg (hne j b h2)]; exact hS.rm j cs' b h1 hpl h2
  ·rw [hFr, if_pos rfl]; exact Nat.le_refl _
theorem al_run {F : Facts} {L : List Nat} {w : World} {H : Heap} (hS : St P F L NX w H) {o : Oper} {ρ : Operand → Value} {e : Env} (hT : ∀ x, Rel F L (ev e x) (ρ x)) (hcn : ∀ v, ρ (.const v) = v) (hal : alO o.op = true) {z : List AV} (hz : allocZ P e o.op = some z) :
  ∃ w' arr t, (execOp ρ o).run P w = .ok (.value (.pointer (some ⟨w.heap.size, 0, none⟩))) w' ∧ Grew w w' arr t (0, 0) ∧ arr.length = z.length ∧ (∀ (k : Nat) c, z[k]? = some c → Rel F L c (arr.getD k undef)) ∧ isMv z = false := by
 obtain ⟨d, op, ty, ps, af, g⟩ := o
 cases op <;> first | (simp [alO] at hal; done) | skip
 ·rename_i t
  simp only [allocZ] at hz
  obtain ⟨v, arr, z1, z2, z3, z4, _⟩ := zeroA_run (P := P) (F := F) (L := L) (w := w) hz
  exact ⟨_, arr, t, by simp [execOp, Instr.alloc, z1, newVar, newRow, z2], Grew.alloc w arr t, z3, z4, zeroA_plain hz⟩
 ·rename_i t x
  simp only [allocZ] at hz
  split at hz
  ·rename_i hone
   injection hz with hz; subst hz
   have hx := evX_rel hT hcn x
   obtain ⟨h1, h2⟩ := hx.cellsOne hone
   exact ⟨_, (ρ x).cells.toList, t, by simp [execOp, Instr.box, newVar, newRow], Grew.alloc w (ρ x).cells.toList t, by simpa using h1, h2, (plainRow_spec (plainRow_one hone)).1⟩
  ·cases hz
structure PendAt (F0 : Facts) (w0 : World) (O : OSet) (F : Facts) (L : List Nat) (a : Act) (w : World) (d B : Nat) (z : List AV) : Prop where
 val : a.tmps.getD d undef = .pointer (some ⟨B, 0, none⟩)
 new : w0.heap.size ≤ B
 lt : B < w.heap.size
 out : B ∉ L
 room : F0.room B = 0
 nof : ∀ i, F B i = none
 own : ∀ q ∈ O, (valAt a q.1 q.2.1).ownBlock ≠ some B
 row : ∃ arr t, Holds w B arr t ∧ z.length ≤ arr.length ∧ ∀ (k : Nat) c, z[k]? = some c → Rel F L c (arr.getD k undef)
 mv : isMv z = false
theorem PendAt.step {O O' : OSet} {F F' : Facts} {L L' : List Nat} {a a' : Act} {w w' : World} {d B : Nat} {z : List AV} {G1 : Nat → Prop} (h : PendAt F0 w0 O F L a w d B z) (hv : a'.tmps.getD d undef = a.tmps.getD d undef)
  (ho : ∀ q ∈ O', (valAt a' q.1 q.2.1).ownBlock ≠ some B) (hg : Goes G1 F L w F' L' w') (hG : ¬ G1 B) : PendAt F0 w0 O' F' L' a' w' d B z := by
 obtain ⟨k1, k2⟩ := hg.keep B h.lt hG h.out
 obtain ⟨arr, t, r1, r2, r3⟩ := h.row
 refine ⟨hv.trans h.val, h.new, Nat.lt_of_lt_of_le h.lt hg.size, fun hm => ?_, h.room, fun i => (k2 i).trans (h.nof i), ho, ⟨arr, t, r1.same k1, r2, fun k c hk => (r3 k c hk).goes hg⟩, h.mv⟩
 rcases hg.newL B hm with hm | hm
 ·exact h.out hm
 ·have := h.lt; omega
def OwnG (O : OSet) (a : Act) : Nat → Prop := fun B => ∃ q ∈ O, (valAt a q.1 q.2.1).ownBlock = some B
theorem Inv.rebase {O : OSet} {e : Env} {H : Heap} {F : Facts} {L : List Nat} {a : Act} {w : World} (h : Inv P G F0 L0 w0 N O e H F L a w) : Inv P (OwnG O a) F L w N O e H F L a w := by
 refine ⟨h.st, Goes.refl _ F L w, h.tie, h.size, h.defers, h.own, h.apart, fun q hq B hB => .inl ⟨q, hq, hB⟩, ?_⟩
 have hg := h.glob.goes h.goes
 refine ⟨hg.ok, fun g hi => ⟨(hg.at_ g hi).1, (hg.at_ g hi).2.1, ?_⟩⟩
 rintro ⟨q, hq, hB⟩
 rcases h.frm q hq g hB with h1 | h1
 ·exact (hg.at_ g hi).2.2 h1
 ·have := (h.glob.at_ g hi).1; omega
theorem Inv.unbase {O O' : OSet} {e e' : Env} {H H' : Heap} {F F' : Facts} {L L' : List Nat} {a a' : Act} {w w' : World} (h : Inv P G F0 L0 w0 N O e H F L a w) (h' : Inv P (OwnG O a) F L w N O' e' H' F' L' a' w') : Inv P G F0 L0 w0 N O' e' H' F' L' a' w' := by
 have hG : ∀ B, B < w0.heap.size → OwnG O a B → G B := by
  rintro B hB ⟨q, hq, hb⟩
  rcases h.frm q hq B hb with h1 | h1
  ·exact h1
  ·omega
 refine ⟨h'.st, (h.goes.trans h'.goes).weaken (fun B hB hh => hh.elim id (hG B hB)), h'.tie, h'.size, h'.defers, h'.own, h'.apart, fun q hq B hB => ?_, h.glob⟩
 rcases h'.frm q hq B hB with ⟨q', hq', hb'⟩ | h1
 ·exact h.frm q' hq' B hb'
 ·exact .inr (Nat.le_trans h.goes.size h1)
structure InvD (P : Program) (G : Nat → Prop) (F0 : Facts) (L0 : List Nat) (w0 : World) (N : Nat) (all : Array Oper) (E : Nat → Env) (Hs : Nat → Heap) (V : Nat → AV) (Oat : Nat → OSet) (D : Nat → Prop) (p : Nat) (F : Facts) (L : List Nat) (a : Act) (w : World) : Prop where
 env : ∃ e, EnvD all E V D p e ∧ Inv P G F0 L0 w0 N (Oat p) e (Hs p) F L a w
 ple : p ≤ all.size
 thr : ∀ (j : Nat) (o : Oper), all[j]? = some o → effE all o = true → (D j → alO o.op = false → j < p) ∧ (j < p → D j)
 pend : ∀ (j : Nat) (o : Oper) d, all[j]? = some o → alO o.op = true → o.dst = some d → D j → p ≤ j → ∃ B z, V j = .ptr (Hs j).length 0 ∧ Hs (j + 1) = Hs j ++ [z] ∧ PendAt F0 w0 (Oat p) F L a w d B z
 dis : ∀ (j j' : Nat) (o o' : Oper) d d' B, all[j]? = some o → all[j']? = some o' → alO o.op = true → alO o'.op = true → o.dst = some d → o'.dst = some d' → D j → D j' → p ≤ j → p ≤ j' → a.tmps.getD d undef = .pointer (some ⟨B, 0, none⟩) → a.tmps.getD d' undef = .pointer (some ⟨B, 0, none⟩) → j = j'
 closed : Closed all D
 alias_ : ∀ (i : Nat) (o : Oper) s d, all[i]? = some o → D i → o.op = .move (.tmp s) → o.dst = some d → o.guard = none → (∀ (j : Nat) (o' : Oper), all[j]? = some o' → D j → o'.dst ≠ some s) → a.tmps.getD d undef = a.tmps.getD s undef
theorem InvD.tick {Oat : Nat → OSet} {D : Nat → Prop} {p : Nat} {F : Facts} {L : List Nat} {a : Act} {w : World} (h : InvD P G F0 L0 w0 N all E Hs V Oat D p F L a w) (T : Tr P C call all E Hs V) (hD : Drw C all) (hO : Own0 P C N all Oat)
  {o : Oper} (hp : all[p]? = some o) (hd : effE all o = true → alO o.op = true ∧ D p) : ∃ F' L', InvD P G F0 L0 w0 N all E Hs V Oat D (p + 1) F' L' a w := by
 have hpl : p < all.size := (Array.getElem?_eq_some_iff.1 hp).1
 have hO1 : Oat (p + 1) = Oat p := hO.one hD hp (by
  cases he : effE all o with
  | false => exact .inl rfl
  | true => exact .inr (hd he).1)
 obtain ⟨e, hE, hI⟩ := h.env
 have hthr : ∀ (j : Nat) (o : Oper), all[j]? = some o → effE all o = true → (D j → alO o.op = false → j < p + 1) ∧ (j < p + 1 → D j) := by
  intro j oj hj hej
  obtain ⟨t1, t2⟩ := h.thr j oj hj hej
  refine ⟨fun x y => by have := t1 x y; omega, fun hlt => ?_⟩
  rcases Nat.lt_or_ge j p with h1 | h1
  ·exact t2 h1
  ·obtain rfl : j = p := by omega
   rw [hp] at hj; injection hj with hj; subst hj
   exact (hd hej).2
 have hEl := hE.late hD hp
 by_cases hal : alO o.op = true
 ·rw [if_pos hal] at hEl
  have hDp := (hd (al_eff hal)).2
  obtain ⟨hgn, d, hdst⟩ := hD.al p o hp hal
  obtain ⟨B, z, v1, v2, hP⟩ := h.pend p o d hp hal hdst hDp (Nat.le_refl _)
  obtain ⟨arr, t, r1, r2, r3⟩ := hP.row
  obtain ⟨F', hFg, hS', hrel, hroom⟩ := hI.st.absorb hP.lt hP.out hP.nof r1 r2 r3 hP.mv
  have hget : ∀ b i, F' b i = F b i := fun b i => by rw [hFg]
  have hgo : Goes G F0 L0 w0 F' (L ++ [B]) w := by
   refine ⟨hI.goes.size, fun b h1 h2 h3 => ?_, fun b i v hv => by rw [hget]; exact hI.goes.mono b i v hv, fun j b hj => ?_, fun b hb => ?_, hI.goes.rest, fun b => ?_⟩
   ·obtain ⟨k1, k2⟩ := hI.goes.keep b h1 h2 h3
    exact ⟨k1, fun i => by rw [hget]; exact k2 i⟩
   ·have := hI.goes.pre j b hj
    rw [xgL (xgI.1 this).1]; exact this
   ·rcases List.mem_append.1 hb with hb | hb
    ·exact hI.goes.newL b hb
    ·simp at hb; subst hb; exact .inr hP.new
   ·by_cases hb : b = B
    ·subst hb; rw [hP.room]; exact Nat.zero_le _
    ·rw [hroom b hb]; exact hI.goes.room b
  have hlen : L.length = (Hs p).length := hI.st.len
  refine ⟨F', L ++ [B], ⟨⟨_, hEl, ?_⟩, hpl, hthr, ?_, ?_, h.closed, h.alias_⟩⟩
  ·rw [hO1, v2]
   refine ⟨hS', hgo, fun t => ?_, hI.size, hI.defers, fun q hq => ?_, hI.apart, hI.frm, hI.glob⟩
   ·rw [put_apply, hdst]
    by_cases ht : some d = some t
    ·rw [if_pos ht]
     injection ht with ht; subst ht
     rw [hP.val, v1]
     exact .ptr _ _ _ (by rw [← hlen]; simp)
    ·rw [if_neg ht]
     exact hrel _ _ (hI.tie t)
   ·intro a' len cap hv
    obtain ⟨o1, o2, o3, o4, o5, o6, o7, o8⟩ := hI.own q hq a' len cap hv
    refine ⟨o1, o2, o3, fun hm => ?_, o5, fun i hi => by rw [hget]; exact o6 i hi, o7, o8⟩
    rcases List.mem_append.1 hm with hm | hm
    ·exact o4 hm
    ·simp at hm
     refine hP.own q hq ?_
     rw [hv]
     simp [Value.ownBlock, hm]
  ·intro j oj dj hj haj hdj hDj hpj
   obtain ⟨B', z', u1, u2, hP'⟩ := h.pend j oj dj hj haj hdj hDj (by omega)
   refine ⟨B', z', u1, u2, ?_⟩
   obtain ⟨arr', t', s1, s2, s3⟩ := hP'.row
   rw [hO1]
   refine ⟨hP'.val, hP'.new, hP'.lt, fun hm => ?_, hP'.room, fun i => by rw [hget]; exact hP'.nof i, hP'.own, ⟨arr', t', s1, s2, fun k c hk => hrel _ _ (s3 k c hk)⟩, hP'.mv⟩
   rcases List.mem_append.1 hm with hm | hm
   ·exact hP'.out hm
   ·simp at hm
    subst hm
    have := h.dis p j o oj d dj B' hp hj hal haj hdst hdj hDp hDj (Nat.le_refl _) (by omega) hP.val hP'.val
    omega
  ·intro j j' oj oj' dj dj' B1 hj hj' ha ha' hdj hdj' hDj hDj' hpj hpj'
   exact h.dis j j' oj oj' dj dj' B1 hj hj' ha ha' hdj hdj' hDj hDj' (by omega) (by omega)
 ·rw [if_neg hal] at hEl
  have hne : effE all o = false := by
   cases he : effE all o with
   | false => rfl
   | true => exact absurd (hd he).1 hal
  have hHs : Hs (p + 1) = Hs p := T.heap hD hp (fun hh => by rw [hne] at hh; cases hh.1)
  refine ⟨F, L, ⟨⟨e, hEl, by rw [hO1, hHs]; exact hI⟩, hpl, hthr, ?_, ?_, h.closed, h.alias_⟩⟩
  ·intro j oj dj hj haj hdj hDj hpj
   rw [hO1]
   exact h.pend j oj dj hj haj hdj hDj (by omega)
  ·intro j j' oj oj' dj dj' B1 hj hj' ha ha' hdj hdj' hDj hDj' hpj hpj'
   exact h.dis j j' oj oj' dj dj' B1 hj hj' ha ha' hdj hdj' hDj hDj' (by omega) (by omega)
theorem InvD.upto {Oat : Nat → OSet} {D : Nat → Prop} (T : Tr P C call all E Hs V) (hD : Drw C all) (hO : Own0 P C N all Oat) {a : Act} {w : World} {q : Nat} (hq : q ≤ all.size) : ∀ (k p : Nat) (F : Facts) (L : List Nat), p + k = q → InvD P G F0 L0 w0 N all E Hs V Oat D p F L a w →
    (∀ (j : Nat) (o : Oper), p ≤ j → j < q → all[j]? = some o → effE all o = true → D j) → ∃ F' L', InvD P G F0 L0 w0 N all E Hs V Oat D q F' L' a w := by
  intro k
  induction k with
  | zero => intro p F L hk h _; obtain rfl : p = q := by omega
            exact ⟨F, L, h⟩
  | succ k ih =>
    intro p F L hk h hall
    have hpo : all[p]? = some all[p] := by simp
    obtain ⟨F1, L1, h1⟩ := h.tick T hD hO hpo (fun he => by
      have hDp := hall p _ (Nat.le_refl _) (by omega) hpo he
      refine ⟨?_, hDp⟩
      cases hal : alO all[p].op with
      | true => rfl
      | false => have := (h.thr p _ hpo he).1 hDp hal; omega)
    exact ih (p + 1) F1 L1 (by omega) h1 (fun j o h2 h3 => hall j o (by omega) h3)
theorem move_wanted {e : Env} {o : Oper} (h : o.guard = none) : wants all e o = some true := by
 unfold wants
 rw [h]
theorem own_old {O O' : OSet} {e' : Env} {H' : Heap} {F F' : Facts} {L L' : List Nat} {a a' : Act} {w w' : World} (h' : Inv P (OwnG O a) F L w N O' e' H' F' L' a' w') {B : Nat} (hB : B < w.heap.size) (hn : ¬ OwnG O a B) : ∀ q ∈ O', (valAt a' q.1 q.2.1).ownBlock ≠ some B := by
 intro q hq hb
 rcases h'.frm q hq B hb with h1 | h1
 ·exact hn h1
 ·omega
theorem InvD.step {call : CallF} (hK : Known P C call) {Oat : Nat → OSet} {D : Nat → Prop} {p0 : Nat} {F0' : Facts} {L0' : List Nat} {a : Act} {w : World} (h0 : InvD P G F0 L0 w0 N all E Hs V Oat D p0 F0' L0' a w) (T : Tr P C call all E Hs V) (hD : Drw C all) (hO : Own0 P C N all Oat)
  {i : Nat} {o : Oper} (hi : all[i]? = some o) (hr : ∀ x, hasE all i x = true → D x) (hn : ¬ D i) {K : Act → World → Prop} {Q : Exit → Act → World → Prop}
  (hK2 : ∀ F' L' a' w' p', InvD P G F0 L0 w0 N all E Hs V Oat (fun j => D j ∨ j = i) p' F' L' a' w' → K a' w') : wpOp P all Q i K a w := by
 have hil : i < all.size := (Array.getElem?_eq_some_iff.1 hi).1
 obtain ⟨p, F, L, h, hpi⟩ : ∃ p F L, InvD P G F0 L0 w0 N all E Hs V Oat D p F L a w ∧ (effE all o = true → alO o.op = false → i = p) := by
  by_cases hc : effE all o = true ∧ alO o.op = false
  ·have hp0 : p0 ≤ i := by
    rcases Nat.lt_or_ge i p0 with h1 | h1
    ·exact absurd ((h0.thr i o hi hc.1).2 h1) hn
    ·exact h1
   obtain ⟨F, L, h⟩ := h0.upto T hD hO (q := i) (by omega) (i - p0) p0 F0' L0' (by omega) (fun j oj h1 h2 hj hej => chain_closed hD h0.closed i o hi hc.1 hc.2 hr j oj hj hej h2)
   exact ⟨i, F, L, h, fun _ _ => rfl⟩
  ·exact ⟨p0, F0', L0', h0, fun h1 h2 => absurd ⟨h1, h2⟩ hc⟩
 clear h0
 obtain ⟨e, hE, hI⟩ := h.env
 have hlook : ∀ t ∈ looksE all o, e t = E i t := fun t ht => hE.look T hD h.closed hi hr hn (fun h1 h2 => by have := hpi h1 h2; omega) ht
 have hw : wants all e o = wants all (E i) o := wants_congr hlook
 have hst : ∀ H, stepA P C call o.dst e H o.op = stepA P C call o.dst (E i) H o.op := fun H => stepA_congr fun x hx => ev_congr fun t ht => hlook t (looks_op hx ht)
 have hdst := hO.dst i o hi
 have hdst' : ∀ d', o.dst = some d' → d' < a.tmps.size := fun d' he => Nat.lt_of_lt_of_le (hdst d' he) hI.size
 have hE' := hE.step hD hi
 have hclosed : Closed all (fun j => D j ∨ j = i) := by
  intro j hj x hx
  rcases hj with hj | rfl
  ·exact .inl (h.closed j hj x hx)
  ·exact .inl (hr x hx)
 have halias : ∀ (u : Value), (∀ s d, o.op = .move (.tmp s) → o.dst = some d → o.guard = none → u = a.tmps.getD s undef) →
   ∀ (k : Nat) (ok : Oper) s d, all[k]? = some ok → (D k ∨ k = i) → ok.op = .move (.tmp s) → ok.dst = some d → ok.guard = none → (∀ (j : Nat) (o' : Oper), all[j]? = some o' → (D j ∨ j = i) → o'.dst ≠ some s) → (a.put o.dst u).tmps.getD d undef = (a.put o.dst u).tmps.getD s undef := by
  intro u hu k ok s d hk hDk hop hd hg hno
  rw [getD_put a _ _ _ hdst', getD_put a _ _ _ hdst', if_neg (hno i o hi (.inr rfl))]
  rcases hDk with hDk | rfl
  ·have hne : o.dst ≠ some d := fun he => hn (hD.dist k i ok o d hk hi hd he ▸ hDk)
   rw [if_neg hne]
   exact h.alias_ k ok s d hk hDk hop hd hg (fun j o' hj hDj => hno j o' hj (.inl hDj))
  ·rw [hi] at hk
   injection hk with hk
   subst hk
   rw [if_pos hd]
   exact hu s d hop hd hg
 have hoth : ∀ (u : Value) (j : Nat) (oj : Oper) d, all[j]? = some oj → oj.dst = some d → j ≠ i → (a.put o.dst u).tmps.getD d undef = a.tmps.getD d undef := by
  intro u j oj d hj hd hne
  rw [getD_put a _ _ _ hdst', if_neg (fun he => hne (hD.dist j i oj o d hj hi hd he))]
 have hpend : ∀ (u : Value) (q : Nat) (F' : Facts) (L' : List Nat) (w' : World), p ≤ q → alO o.op = false → (∃ e' H', Inv P (OwnG (Oat p) a) F L w N (Oat q) e' H' F' L' (a.put o.dst u) w') →
   (∀ (j : Nat) (oj : Oper) d, all[j]? = some oj → alO oj.op = true → oj.dst = some d → (D j ∨ j = i) → q ≤ j → ∃ B z, V j = .ptr (Hs j).length 0 ∧ Hs (j + 1) = Hs j ++ [z] ∧ PendAt F0 w0 (Oat q) F' L' (a.put o.dst u) w' d B z) ∧
   (∀ (j j' : Nat) (oj oj' : Oper) d d' B, all[j]? = some oj → all[j']? = some oj' → alO oj.op = true → alO oj'.op = true → oj.dst = some d → oj'.dst = some d' → (D j ∨ j = i) → (D j' ∨ j' = i) → q ≤ j → q ≤ j' → (a.put o.dst u).tmps.getD d undef = .pointer (some ⟨B, 0, none⟩) → (a.put o.dst u).tmps.getD d' undef = .pointer (some ⟨B, 0, none⟩) → j = j') := by
  rintro u q F' L' w' hpq hal ⟨e', H', hI'⟩
  have hni : ∀ (j : Nat) (oj : Oper), all[j]? = some oj → alO oj.op = true → j ≠ i := by
   rintro j oj hj ha rfl
   rw [hi] at hj; injection hj with hj
   rw [hj, ha] at hal; cases hal
  refine ⟨fun j oj d hj ha hd hDj hqj => ?_, fun j j' oj oj' d d' B hj hj' ha ha' hd hd' hDj hDj' hqj hqj' e1 e2 => ?_⟩
  ·have hne := hni j oj hj ha
   obtain ⟨B, z, v1, v2, hP⟩ := h.pend j oj d hj ha hd (hDj.resolve_right hne) (by omega)
   have hno : ¬ OwnG (Oat p) a B := by
    rintro ⟨x, hx, hb⟩
    exact hP.own x hx hb
   exact ⟨B, z, v1, v2, hP.step (hoth u j oj d hj hd hne) (own_old hI' hP.lt hno) hI'.goes hno⟩
  ·have hne := hni j oj hj ha
   have hne' := hni j' oj' hj' ha'
   rw [hoth u j oj d hj hd hne] at e1
   rw [hoth u j' oj' d' hj' hd' hne'] at e2
   exact h.dis j j' oj oj' d d' B hj hj' ha ha' hd hd' (hDj.resolve_right hne) (hDj'.resolve_right hne') (by omega) (by omega) e1 e2
 unfold wpOp
 rw [hi]
 simp only
 by_cases hal : alO o.op = true
 ·-- a new variable
  obtain ⟨hgn, d, hdd⟩ := hD.al i o hi hal
  rw [wants_ok hI (move_wanted hgn)]
  simp only [if_true]
  rcases (T.at_ hi).out with ⟨h1, _⟩ | ⟨_, h2, h3⟩
  ·rw [move_wanted hgn] at h1; cases h1
  obtain ⟨z, hz, v1, v2⟩ := al_step hal h2
  have hz' : allocZ P e o.op = some z := by
   rw [← hz]
   exact allocZ_congr fun x hx => evX_congr (ev_congr fun t ht => hlook t (looks_op hx ht))
  obtain ⟨w', arr, t, hrun, hgr, hl, hrl, hmv⟩ := al_run hI.st (o := o) (ρ := a.eval) (fun x => hI.ev x) (fun _ => rfl) hal hz'
  have hip : p ≤ i := by
   rcases Nat.lt_or_ge i p with h1 | h1
   ·exact absurd ((h.thr i o hi (al_eff hal)).2 h1) hn
   ·exact h1
  obtain ⟨hS', hgo⟩ := hI.st.row hgr [] (fun i v hv => by simp at hv)
  have hkill := hO.keep hD h.ple hi (.inr hal)
  refine .inl ?_
  unfold Oper.wp
  rw [hrun]
  have hInv := fun {G' : Nat → Prop} {F1 : Facts} {L1 : List Nat} {w1 : World} (hI : Inv P G' F1 L1 w1 N (Oat p) e (Hs p) F L a w) => hI.step (G1 := fun _ => False) (d := o.dst) (r := .un) (u := .pointer (some ⟨w.heap.size, 0, none⟩)) (O1 := Oat p) (new := []) hdst hS' hgo (.un _) (fun _ _ h => h.elim) (fun p hp => hp) (fun _ _ _ _ h => h) (by simp) (by simp) (by simp)
  have hI1 := hInv hI
  have hI2 := hInv hI.rebase
  rw [hkill, List.nil_append] at hI1 hI2
  refine hK2 _ L _ w' p ⟨⟨_, hE.early hD hi hal hip .un, hI1⟩, h.ple, ?_, ?_, ?_, hclosed, halias _ fun s d hm _ _ => by rw [hm] at hal; cases hal⟩
  ·intro j oj hj hej
   obtain ⟨t1, t2⟩ := h.thr j oj hj hej
   refine ⟨fun hh hna => ?_, fun hh => .inl (t2 hh)⟩
   rcases hh with hh | rfl
   ·exact t1 hh hna
   ·rw [hi] at hj; injection hj with hj
    rw [← hj, hal] at hna; cases hna
  ·intro j oj dj hj haj hdj hDj hpj
   by_cases hji : j = i
   ·subst hji
    rw [hi] at hj; injection hj with hj; subst hj
    refine ⟨w.heap.size, z, v1, v2, ?_⟩
    refine ⟨by rw [getD_put a _ _ _ hdst', if_pos hdj], hI.goes.size, by have := hgr.size; omega, fun hm => by have := hI.st.lt _ hm; omega, ?_, fun k => ?_, fun q hq hb => ?_, ⟨arr, t, ⟨_, hgr.new, .inr rfl⟩, by omega, fun k c hk => (hrl k c hk).goes hgo⟩, hmv⟩
    ·have h1 := hI.goes.room w.heap.size
     have h2 := hI.st.room0 w.heap.size (Nat.le_refl _)
     omega
    ·rw [addF_get, if_pos rfl]; rfl
    ·have hv : valAt (a.put o.dst (.pointer (some ⟨w.heap.size, 0, none⟩))) q.1 q.2.1 = valAt a q.1 q.2.1 := valAt_put a _ _ _ _ hdst' (hO.nod hD p h.ple q hq j o hi (.inr hal))
     rw [hv] at hb
     have := own_block_lt (hI.own q hq) hb
     omega
   ·obtain ⟨B, z', u1, u2, hP⟩ := h.pend j oj dj hj haj hdj (hDj.resolve_right hji) hpj
    have hno : ¬ OwnG (Oat p) a B := by
     rintro ⟨x, hx, hb⟩
     exact hP.own x hx hb
    exact ⟨B, z', u1, u2, hP.step (hoth _ j oj dj hj hdj hji) (own_old hI2 hP.lt hno) hgo (fun h => h)⟩
  ·intro j j' oj oj' dj dj' B hj hj' ha ha' hdj hdj' hDj hDj' hpj hpj' e1 e2
   have key : ∀ (j : Nat) (oj : Oper) dj, all[j]? = some oj → alO oj.op = true → oj.dst = some dj → (D j ∨ j = i) → p ≤ j → j ≠ i → (a.put o.dst (.pointer (some ⟨w.heap.size, 0, none⟩))).tmps.getD dj undef = .pointer (some ⟨B, 0, none⟩) → B < w.heap.size ∧ a.tmps.getD dj undef = .pointer (some ⟨B, 0, none⟩) := by
    intro j oj dj hj ha hdj hDj hpj hne e1
    rw [hoth _ j oj dj hj hdj hne] at e1
    obtain ⟨B', z', _, _, hP⟩ := h.pend j oj dj hj ha hdj (hDj.resolve_right hne) hpj
    have := hP.val
    rw [e1] at this
    injection this with this; injection this with this; injection this with this
    exact ⟨this ▸ hP.lt, e1⟩
   have own : ∀ (j : Nat) (oj : Oper) dj, all[j]? = some oj → oj.dst = some dj → j = i → (a.put o.dst (.pointer (some ⟨w.heap.size, 0, none⟩))).tmps.getD dj undef = .pointer (some ⟨B, 0, none⟩) → B = w.heap.size := by
    rintro j oj dj hj hdj rfl e1
    rw [hi] at hj; injection hj with hj; subst hj
    rw [getD_put a _ _ _ hdst', if_pos hdj] at e1
    injection e1 with e1; injection e1 with e1; injection e1 with e1
    exact e1.symm
   by_cases h1 : j = i <;> by_cases h2 : j' = i
   ·rw [h1, h2]
   ·have k1 := own j oj dj hj hdj h1 e1
    have k2 := (key j' oj' dj' hj' ha' hdj' hDj' hpj' h2 e2).1
    omega
   ·have k1 := own j' oj' dj' hj' hdj' h2 e2
    have k2 := (key j oj dj hj ha hdj hDj hpj h1 e1).1
    omega
   ·exact h.dis j j' oj oj' dj dj' B hj hj' ha ha' hdj hdj' (hDj.resolve_right h1) (hDj'.resolve_right h2) hpj hpj' (key j oj dj hj ha hdj hDj hpj h1 e1).2 (key j' oj' dj' hj' ha' hdj' hDj' hpj' h2 e2).2
 have hal : alO o.op = false := by
  cases hh : alO o.op with
  | false => rfl
  | true => exact absurd hh hal
 cases heff : effE all o with
 | false =>
  have hthr : ∀ (j : Nat) (oj : Oper), all[j]? = some oj → effE all oj = true → ((D j ∨ j = i) → alO oj.op = false → j < p) ∧ (j < p → (D j ∨ j = i)) := by
   intro j oj hj hej
   have hne : j ≠ i := by
    rintro rfl
    rw [hi] at hj
    injection hj with hj
    rw [← hj, heff] at hej
    cases hej
   obtain ⟨t1, t2⟩ := h.thr j oj hj hej
   exact ⟨fun hh hna => t1 (hh.resolve_right hne) hna, fun hh => .inl (t2 hh)⟩
  have hkill : killO o.dst (Oat p) = Oat p := hO.keep hD h.ple hi (.inl heff)
  have hpu : pureE o = true := (hD.cls i o hi).1.resolve_left (by rw [heff]; simp)
  rcases (T.at_ hi).out with ⟨h1, h2, h3, h4⟩ | ⟨h1, h2, h3⟩
  ·rw [← hw] at h1
   rw [wants_ok hI h1]
   have hg : o.guard ≠ none := fun hg => by rw [move_wanted hg] at h1; cases h1
   have hInv := fun {G' : Nat → Prop} {F1 : Facts} {L1 : List Nat} {w1 : World} (hI : Inv P G' F1 L1 w1 N (Oat p) e (Hs p) F L a w) => hI.step (G1 := fun _ => False) (d := o.dst) (r := skipA) (u := undef) (O1 := Oat p) (new := []) hdst hI.st (Goes.refl _ F L w) skip_rel (fun _ _ h => h.elim) (fun p hp => hp) (fun _ _ _ _ h => h) (by simp) (by simp) (by simp)
   have hI1 := hInv hI
   have hI2 := hInv hI.rebase
   rw [hkill, List.nil_append] at hI1 hI2
   obtain ⟨g1, g2⟩ := hpend undef p F L w (Nat.le_refl _) hal ⟨_, _, hI2⟩
   refine hK2 F L _ w p ⟨⟨_, hE', ?_⟩, h.ple, hthr, g1, g2, hclosed, halias undef fun s d _ _ hg' => absurd hg' hg⟩
   rw [h2]
   exact hI1
  ·rw [← hw] at h1
   rw [wants_ok hI h1]
   simp only [if_true]
   obtain ⟨F', L', w', u, hdone⟩ : ∃ F' L' w' u, Done P NX F L w o a.eval (V i) (Hs p) F' L' w' u := by
    rcases hD.spc i o hi hpu with hs | hs
    ·have hst' : ∀ H, stepB P C (C.via o.dst call) e H o.op = stepB P C (C.via o.dst call) (E i) H o.op := fun H => stepB_congr fun x hx => ev_congr fun t ht => hlook t (looks_op hx ht)
     have h2 : stepB P C (C.via o.dst call) (E i) (Hs i) o.op = some (V i, Hs (i + 1)) := by
      rwa [stepA_pure hs] at h2
     have hval : stepB P C (C.via o.dst call) e (Hs p) o.op = some (V i, Hs p) := by
      rw [hst']
      obtain ⟨q1, q2, q3⟩ := pure_heap hpu h2
      by_cases hl : ∃ t x, o.op = .load t x
      ·obtain ⟨t, x, hop⟩ := hl
       have := load_any T hD h.closed h.ple h.thr hi hr hn hop (by rw [← hw]; exact h1)
       rw [hop]
       simp only [stepB, opA, this, Option.map_some]
      ·exact q2 (fun t x hop => hl ⟨t, x, hop⟩) (Hs p)
     have happ : isAppend o.op = false := by
      unfold isAppend
      split
      ·rename_i args ts hop
       unfold pureE at hpu
       rw [hop] at hpu
       cases hpu
      ·rfl
     have hop : opA P e (Hs p) o.op = some (V i, Hs p) := by
      unfold stepB at hval
      split at hval
      ·rename_i f args ts hop
       unfold pureE at hpu
       rw [hop] at hpu
       cases hpu
      ·exact hval
     obtain ⟨F', L', w', u, hdone, _⟩ := opA_run hI.st (o := o) (ρ := a.eval) (fun x => hI.ev x) (fun _ => rfl) hop happ
     exact ⟨F', L', w', u, hdone⟩
    ·have hs2 := slice_any T hD h.closed h.ple h.thr hi hr hn hs (by rw [← hw]; exact h1)
     rw [← hst] at hs2
     obtain ⟨m1, m2, t, x, lo, hi', mx, hop⟩ := muSl_spec hs
     have hmu : muA P e (Hs p) o.op = some (V i, Hs p) := by
      rw [hop, stepA_slice m1 m2] at hs2
      rw [hop]; exact hs2
     obtain ⟨u, w', F', L', k1, k2, k3, k4⟩ := muA_run hI.st (o := o) (ρ := a.eval) (fun x => hI.ev x) (fun _ => rfl) hmu
     exact ⟨F', L', w', u, .inl k1, k2, k3, k4⟩
   refine .inl ?_
   have hu : ∀ s d, o.op = .move (.tmp s) → o.dst = some d → o.guard = none → u = a.tmps.getD s undef := by
    intro s d hm _ _
    have hrun : (execOp a.eval o).run P w = .ok (.value (a.tmps.getD s undef)) w := by unfold execOp; rw [hm]; simp [Act.eval]
    exact (done_val hdone hrun).1
   have hfin : K (a.put o.dst u) w' := by
    have hInv := fun {G' : Nat → Prop} {F1 : Facts} {L1 : List Nat} {w1 : World} (hI : Inv P G' F1 L1 w1 N (Oat p) e (Hs p) F L a w) => hI.step (G1 := fun _ => False) (d := o.dst) (r := V i) (u := u) (O1 := Oat p) (new := []) hdst hdone.st hdone.goes hdone.rel (fun _ _ h => h.elim) (fun p hp => hp) (fun _ _ _ _ h => h) (by simp) (by simp) (by simp)
    have hI1 := hInv hI
    have hI2 := hInv hI.rebase
    rw [hkill, List.nil_append] at hI1 hI2
    obtain ⟨g1, g2⟩ := hpend u p F' L' w' (Nat.le_refl _) hal ⟨_, _, hI2⟩
    exact hK2 F' L' _ w' p ⟨⟨_, hE', hI1⟩, h.ple, hthr, g1, g2, hclosed, halias u hu⟩
   unfold Oper.wp
   rcases hdone.run with hr | ⟨hr, rfl⟩
   ·rw [hr]; exact hfin
   ·rw [hr]; exact hfin
 | true =>
  obtain rfl := hpi heff hal
  have hthr : ∀ (j : Nat) (oj : Oper), all[j]? = some oj → effE all oj = true → ((D j ∨ j = i) → alO oj.op = false → j < i + 1) ∧ (j < i + 1 → (D j ∨ j = i)) := by
   intro j oj hj hej
   obtain ⟨t1, t2⟩ := h.thr j oj hj hej
   refine ⟨fun hh hna => ?_, fun hh => ?_⟩
   ·rcases hh with hh | hh
    ·have := t1 hh hna
     omega
    ·omega
   ·rcases Nat.lt_or_ge j i with h1 | h1
    ·exact .inl (t2 h1)
    ·exact .inr (by omega)
  have hnomove : ∀ s, o.op ≠ .move (.tmp s) := fun s hm => by have h1 := effE_eff heff; rw [hm] at h1; cases h1
  have hA : AliasOK (aliasE all i) a := by
   intro q hq
   unfold aliasE at hq
   obtain ⟨⟨ok, k⟩, hk, hq⟩ := List.mem_filterMap.1 hq
   have hk' : all[k]? = some ok := by simpa using List.mem_zipIdx_iff_getElem?.1 hk
   simp only at hq
   split at hq
   ·rename_i s d hm hd hg
    split at hq
    ·rename_i hc
     injection hq with hq
     subst hq
     refine Or.inl (h.alias_ k ok s d hk' (hr k hc.1) hm hd hg (fun j o' hj hDj hds => ?_))
     have := List.all_eq_true.1 hc.2 _ (mem_zip hj)
     simp only [Bool.or_eq_true, Bool.and_eq_true, Bool.not_eq_true', decide_eq_true_eq] at this
     rcases this with h1 | ⟨⟨h1, h3⟩, h2⟩
     ·simp [hds] at h1
     ·have := (h.thr j o' hj h1).1 hDj h3
      omega
    ·cases hq
   ·cases hq
  obtain ⟨A', hchk⟩ := hO.eff i o hi heff
  have hfin : ∀ F' L' a' w', Inv P (OwnG (Oat i) a) F L w N (Oat (i + 1)) (put e o.dst (V i)) (Hs (i + 1)) F' L' a' w' → (∃ u, a' = a.put o.dst u) → K a' w' := by
   rintro F' L' a' w' hI' ⟨u, rfl⟩
   obtain ⟨g1, g2⟩ := hpend u (i + 1) F' L' w' (by omega) hal ⟨_, _, hI'⟩
   have hE2 : EnvD all E V (fun j => D j ∨ j = i) (i + 1) (put e o.dst (V i)) := by
    have := hE'.late hD hi
    rwa [if_neg (by rw [hal]; simp)] at this
   exact hK2 F' L' _ w' (i + 1) ⟨⟨_, hE2, hI.unbase hI'⟩, hil, hthr, g1, g2, hclosed, halias u fun s d hm _ _ => absurd hm (hnomove s)⟩
  rcases (T.at_ hi).out with ⟨h1, h2, h3, h4⟩ | ⟨h1, h2, h3⟩
  ·rw [← hw] at h1
   rw [wants_ok hI h1]
   have hg : o.guard ≠ none := fun hg => by rw [move_wanted hg] at h1; cases h1
   obtain ⟨hI', _⟩ := skip_ok hI.rebase hA hchk hg
   refine hfin F L _ w ?_ ⟨undef, rfl⟩
   rw [h2, h3]
   exact hI'
  ·rw [← hw] at h1
   rw [wants_ok hI h1]
   simp only [if_true]
   refine .inl ?_
   rw [← hst] at h2
   exact op_ok hK hI.rebase hA h2 hchk fun F' L' u w' hI' _ => hfin F' L' _ w' hI' ⟨u, rfl⟩
end
end Go.Lv
set_option linter.unusedVariables false
set_option linter.unusedSimpArgs false
namespace Go.Lv
section
variable {P : Program} {C : Cfg} {call : CallF} {all : Array Oper} {G : Nat → Prop} {F0 : Facts} {L0 : List Nat} {w0 : World} {N : Nat} {E : Nat → Env} {Hs : Nat → Heap} {V : Nat → AV}
def left (listed : Array Bool) (n : Nat) : List Nat := (List.range n).filter fun i => !listed.getD i false
theorem left_step {listed : Array Bool} {n i : Nat} (hi : i < n) (hs : listed.size = n) (hl : listed.getD i false = false) : (left (listed.setIfInBounds i true) n).length < (left listed n).length := by
 have : left (listed.setIfInBounds i true) n = (left listed n).filter fun j => !(j == i) := by
  unfold left
  rw [List.filter_filter]
  apply List.filter_congr
  intro j hj
  by_cases h : i = j
  ·subst h
   simp [Array.getD_eq_getD_getElem?, Array.getElem?_setIfInBounds, hs, hi]
  ·rw [getD_set_ne false h]
   have : (j == i) = false := by simpa using fun e => h e.symm
   simp [this]
 rw [this]
 refine List.length_filter_lt_length_iff_exists.2 ⟨i, ?_, by simp⟩
 unfold left
 exact List.mem_filter.2 ⟨List.mem_range.2 hi, by rw [hl]; rfl⟩
theorem any_ok {call : CallF} (hK : Known P C call) {Oat : Nat → OSet} (T : Tr P C call all E Hs V) (hD : Drw C all) (hO : Own0 P C N all Oat) {Q : Exit → Act → World → Prop}
  (hQ : ∀ F' L' a' w', Inv P G F0 L0 w0 N (Oat all.size) (E all.size) (Hs all.size) F' L' a' w' → Q .normal a' w') :
  ∀ (fuel : Nat) (listed : Array Bool) (p : Nat) (F : Facts) (L : List Nat) (a : Act) (w : World), listed.size = all.size → (left listed all.size).length ≤ fuel →
   InvD P G F0 L0 w0 N all E Hs V Oat (fun i => listed.getD i false = true) p F L a w → wpAny P .any all Q fuel listed a w := by
 have done : ∀ (listed : Array Bool) (p : Nat) (F : Facts) (L : List Nat) (a : Act) (w : World), listed.size = all.size → InvD P G F0 L0 w0 N all E Hs V Oat (fun i => listed.getD i false = true) p F L a w → Region.ready .any all listed = [] → Q .normal a w := by
  intro listed p F L a w hs h hr
  have hall : ∀ i, i < all.size → listed.getD i false = true := by
   intro i
   induction i using Nat.strongRecOn with
   | _ i ih =>
    intro hi
    cases hl : listed.getD i false with
    | true => rfl
    | false =>
     have : i ∈ Region.ready .any all listed := by
      refine mem_ready.2 ⟨?_, all[i], by simp, fun e he hb => ih e.on ((hD.cls i all[i] (by simp)).2 e he hb) (by have := (hD.cls i all[i] (by simp)).2 e he hb; omega)⟩
      rw [Array.getD_eq_getD_getElem?] at hl ⊢
      have : i < listed.size := by omega
      simp [this] at hl ⊢
      exact hl
     rw [hr] at this
     cases this
  obtain ⟨F1, L1, h1⟩ := h.upto T hD hO (q := all.size) (Nat.le_refl _) (all.size - p) p F L (by have := h.ple; omega) (fun j o _ hj _ _ => hall j hj)
  obtain ⟨e, hE, hI⟩ := h1.env
  have e3 : E all.size = e := by
   funext t
   by_cases hx : ∃ (j : Nat) (o : Oper), all[j]? = some o ∧ o.dst = some t
   ·obtain ⟨j, o, hj, hd⟩ := hx
    have hjl : j < all.size := (Array.getElem?_eq_some_iff.1 hj).1
    rw [T.hit hD hj hd _ hjl (Nat.le_refl _), hE.hit j o t hj (hall j hjl) (fun hh => by omega) hd]
   ·rw [T.miss _ (Nat.le_refl _) (fun j o _ hj hd => hx ⟨j, o, hj, hd⟩), hE.miss t (fun j o hj _ hd => hx ⟨j, o, hj, hd⟩) (fun j o hj _ hd => hx ⟨j, o, hj, hd⟩)]
  exact hQ F1 L1 a w (by rw [e3]; exact hI)
 intro fuel
 induction fuel with
 | zero =>
  intro listed p F L a w hs hl h
  have hr : Region.ready .any all listed = [] := by
   cases hr : Region.ready .any all listed with
   | nil => rfl
   | cons i l =>
    have hi : i ∈ Region.ready .any all listed := by rw [hr]; exact List.mem_cons_self
    obtain ⟨h1, o, ho, _⟩ := mem_ready.1 hi
    have hil : i < all.size := (Array.getElem?_eq_some_iff.1 ho).1
    have : i ∈ left listed all.size := by
     unfold left
     have : listed.getD i false = false := by
      rw [Array.getD_eq_getD_getElem?] at h1 ⊢
      have : i < listed.size := by omega
      simp [this] at h1 ⊢
      exact h1
     exact List.mem_filter.2 ⟨List.mem_range.2 hil, by rw [this]; rfl⟩
    have h0 : left listed all.size = [] := List.eq_nil_of_length_eq_zero (by omega)
    rw [h0] at this
    cases this
  exact ⟨hr, done listed p F L a w hs h hr⟩
 | succ fuel ih =>
  intro listed p F L a w hs hl h
  refine ⟨done listed p F L a w hs h, fun i hi => ?_⟩
  obtain ⟨h1, o, ho, h2⟩ := mem_ready.1 hi
  have hil : i < all.size := (Array.getElem?_eq_some_iff.1 ho).1
  have hun : listed.getD i false = false := by
   rw [Array.getD_eq_getD_getElem?] at h1 ⊢
   have : i < listed.size := by omega
   simp [this] at h1 ⊢
   exact h1
  refine h.step hK T hD hO ho (fun x hx => ?_) (by simp [hun]) (fun F' L' a' w' p' h' => ih (listed.setIfInBounds i true) p' F' L' a' w' (by simpa using hs) (by have := left_step hil hs hun; omega) ?_)
  ·obtain ⟨o', ho', e, he, hb, hon⟩ := hasE_some hx
   rw [ho] at ho'
   injection ho' with ho'
   subst ho'
   exact hon ▸ h2 e he hb
  ·have hset : (fun j => (listed.setIfInBounds i true).getD j false = true) = fun j => listed.getD j false = true ∨ j = i := by
    funext j
    by_cases hj : i = j
    ·subst hj
     simp [Array.getD_eq_getD_getElem?, Array.getElem?_setIfInBounds, hs, hil]
    ·rw [getD_set_ne false hj]
     have : (j = i) = False := by simpa using fun e : j = i => hj e.symm
     rw [this, or_false]
   rw [hset]
   exact h'
theorem draw_ok {call : CallF} (hK : Known P C call) (hm : P.follows .mixedOrders = true) {id : Nat} {O O' : OSet} {e e' : Env} {H H' : Heap} {F : Facts} {L : List Nat} {a : Act} {w : World} {Q : Exit → Act → World → Prop}
  (hI : Inv P G F0 L0 w0 N O e H F L a w) (hc : chkDraw P C N all O = some O') (h : lopsD P C call all 0 all.toList e H {} = some (e', H'))
  (hQ : ∀ F' L' a' w', Inv P G F0 L0 w0 N O' e' H' F' L' a' w' → Q .normal a' w') : (Code.region id all true).wp P Q a w := by
 unfold chkDraw at hc
 split at hc
 ·rename_i hd
  have hD := drwOK_spec hd
  obtain ⟨E, Hs, V, e1, e2, e3, e4, T⟩ := trace_of all.toList 0 e H {} e' H' h
  obtain ⟨Oat, o1, o2, o3⟩ := chkEffs_at all.toList 0 _ O' hc
  simp only [Nat.zero_add, Array.length_toList] at e3 e4 o2
  have hO : Own0 P C N all Oat := by
   refine ⟨fun i o hi => ?_, fun i o hi he => ?_, fun i o hi he => ?_, fun q hq j o hj he hdst => ?_⟩
   ·exact (o3 i o (by simpa using hi)).1
   ·have := (o3 i o (by simpa using hi)).2.1 he
    simpa using this
   ·have := (o3 i o (by simpa using hi)).2.2 he
    simpa using this
   ·rw [o1] at hq
    simp only [List.mem_filter, Bool.not_eq_true', List.any_eq_false] at hq
    have := hq.2 o (by simpa using Array.mem_of_getElem? hj)
    rcases he with he | he <;> simp [hdst, he] at this
  refine wp_region_any hm ?_
  have hfalse : ∀ i, (Array.replicate all.size false).getD i false = false := by
   intro i
   rw [Array.getD_eq_getD_getElem?, Array.getElem?_replicate]
   split <;> rfl
  have hId : Inv P G F0 L0 w0 N (Oat 0) (E 0) (Hs 0) F L a { w with drawn := w.drawn + 1 } := by
   rw [e1, e2]
   have hI1 : Inv P G F0 L0 w0 N (Oat 0) e H F L a w := hI.sub (by rw [o1]; exact fun p hp => (List.mem_filter.1 hp).1)
   have hst : St P F L NX { w with drawn := w.drawn + 1 } H := ⟨hI1.st.mem, hI1.st.len, hI1.st.obj, hI1.st.lt, hI1.st.nof, hI1.st.nox, hI1.st.inj, hI1.st.xlt, hI1.st.room0, hI1.st.mob, hI1.st.rm⟩
   exact ⟨hst, ⟨hI1.goes.size, hI1.goes.keep, hI1.goes.mono, hI1.goes.pre, hI1.goes.newL, hI1.goes.rest, hI1.goes.room⟩, hI1.tie, hI1.size, hI1.defers, hI1.own, hI1.apart, hI1.frm, hI1.glob⟩
  refine any_ok hK T hD hO (fun F' L' a' w' hI' => hQ F' L' a' w' (by rw [← e3, ← e4, ← o2]; exact hI')) all.size _ 0 F L a _ (by simp) ?_ ⟨⟨E 0, ⟨fun j o t hj hDj => ?_, fun t _ _ => rfl⟩, hId⟩, Nat.zero_le _, fun j o hj he => ?_, fun j o d hj ha hd hDj => ?_, fun j j' o o' d d' B hj hj' ha ha' hd hd' hDj => ?_, fun i hi => ?_, fun i o s d hi hDi => ?_⟩
  ·unfold left
   exact Nat.le_trans (List.length_filter_le _ _) (by simp)
  ·rw [hfalse] at hDj; cases hDj
  ·rw [hfalse]
   simp
  ·rw [hfalse] at hDj; cases hDj
  ·rw [hfalse] at hDj; cases hDj
  ·rw [hfalse] at hi; cases hi
  ·rw [hfalse] at hDi; cases hDi
 ·cases hc
end
end Go.Lv
set_option linter.unusedVariables false
set_option linter.unusedSimpArgs false
namespace Go.Lv
section
variable {P : Program} {C : Cfg} {G : Nat → Prop} {F0 : Facts} {L0 : List Nat} {w0 : World} {N : Nat} {O O' : OSet} {A A' : List (Nat × Nat)} {e : Env} {H : Heap} {F : Facts} {L : List Nat} {a : Act} {w : World}
def Ex.toExit : Ex → Exit
 | .normal => .normal
 | .exit id => .exit id
 | .ret => .ret
def Left (ret : OSet → Bool) (R : ChkR) (x : Ex) (O : OSet) : Prop :=
 match x with
 | .normal => ∃ O1, R.1 = some O1 ∧ ∀ p ∈ O1, p ∈ O
 | .exit id => ∃ O1, (id, O1) ∈ R.2 ∧ ∀ p ∈ O1, p ∈ O
 | .ret => ret O = true
theorem sub_inter1 {O O' : OSet} : ∀ p ∈ interO O O', p ∈ O := fun p hp => (List.mem_filter.1 hp).1
theorem sub_inter2 {O O' : OSet} : ∀ p ∈ interO O O', p ∈ O' := fun p hp => by simpa using (List.mem_filter.1 hp).2
theorem join_left {x y : Option OSet} {O1 : OSet} (h : x = some O1) : ∃ O2, joinO x y = some O2 ∧ ∀ p ∈ O2, p ∈ O1 := by
 subst h
 cases y with
 | none => exact ⟨O1, rfl, fun p hp => hp⟩
 | some O' => exact ⟨_, rfl, sub_inter1⟩
theorem join_right {x y : Option OSet} {O1 : OSet} (h : y = some O1) : ∃ O2, joinO x y = some O2 ∧ ∀ p ∈ O2, p ∈ O1 := by
 subst h
 cases x with
 | none => exact ⟨O1, rfl, fun p hp => hp⟩
 | some O' => exact ⟨_, rfl, sub_inter2⟩
theorem join_fold : ∀ (l : List OSet) (x : Option OSet), (∀ O1, x = some O1 → ∃ O2, l.foldl (fun x O => joinO x (some O)) x = some O2 ∧ ∀ p ∈ O2, p ∈ O1) ∧ ∀ O1 ∈ l, ∃ O2, l.foldl (fun x O => joinO x (some O)) x = some O2 ∧ ∀ p ∈ O2, p ∈ O1 := by
 intro l
 induction l with
 | nil => intro x; exact ⟨fun O1 h => ⟨O1, h, fun p hp => hp⟩, by simp⟩
 | cons O l ih =>
  intro x
  refine ⟨fun O1 h => ?_, fun O1 h => ?_⟩
  ·obtain ⟨O2, h1, h2⟩ := join_left (y := some O) h
   obtain ⟨O3, h3, h4⟩ := (ih (joinO x (some O))).1 O2 h1
   exact ⟨O3, h3, fun p hp => h2 p (h4 p hp)⟩
  ·rcases List.mem_cons.1 h with rfl | h
   ·obtain ⟨O2, h1, h2⟩ := join_right (x := x) (y := some O1) rfl
    obtain ⟨O3, h3, h4⟩ := (ih (joinO x (some O1))).1 O2 h1
    exact ⟨O3, h3, fun p hp => h2 p (h4 p hp)⟩
   ·exact (ih (joinO x (some O))).2 O1 h
theorem wp_loop_down {c : Code} {Q : Exit → Act → World → Prop} (J : Nat → Act → World → Prop)
  (round : ∀ n a w, J n a w → c.wp P (Exit.then (fun a' w' => ∃ m, m < n ∧ J m a' w') Q) a w) : ∀ n a w, J n a w → (Code.loop c).wp P Q a w := by
 intro n0 a0 w0 h0 b k cs
 have key : ∀ n a w, J n a w → ∃ e a' w', Q e a' w' ∧ Arrives P (lone (b.at a (.code c :: .inLoop c :: k)) cs w) b k cs e a' w' := by
  intro n
  induction n using Nat.strongRecOn with
  | _ n ih =>
   intro a w hJ
   obtain ⟨e, a1, w1, hq, harr⟩ := round n a w hJ b (.inLoop c :: k) cs
   cases e with
   | normal =>
    obtain ⟨m, hm, hJ'⟩ := hq
    obtain ⟨e2, a2, w2, hq2, harr2⟩ := ih m hm a1 w1 hJ'
    exact ⟨e2, a2, w2, hq2, .of_steps (Steps.trans harr (.one step_inLoop)) harr2⟩
   | exit id => exact ⟨_, a1, w1, hq, .pass (x := .inLoop c) rfl (fun _ _ => .inl (by simp)) harr⟩
   | goto l => exact ⟨_, a1, w1, hq, .pass (x := .inLoop c) rfl (fun _ _ => .inl (by simp)) harr⟩
   | ret => exact ⟨_, a1, w1, hq, .pass (x := .inLoop c) rfl (fun _ _ => .inl (by simp)) harr⟩
   | panic ch => exact ⟨_, a1, w1, hq, .pass (x := .inLoop c) rfl (fun _ _ => .inl (by simp)) harr⟩
   | outgrown => exact ⟨_, a1, w1, hq, .pass (x := .inLoop c) rfl (fun _ _ => .inl (by simp)) harr⟩
 obtain ⟨e, a', w', hq, harr⟩ := key n0 a0 w0 h0
 exact ⟨e, a', w', hq, .of_steps (.one step_loop) harr⟩
theorem fixLoop_some {f : OSet → Option ChkR} : ∀ (k : Nat) (O : OSet) (R : ChkR), fixLoop f k O = some R → ∃ O1 r xs, (∀ p ∈ O1, p ∈ O) ∧ f O1 = some (r, xs) ∧ R = (none, xs) ∧ ∀ O2, r = some O2 → ∀ p ∈ O1, p ∈ O2 := by
 intro k
 induction k with
 | zero => intro O R h; cases h
 | succ k ih =>
  intro O R h
  unfold fixLoop at h
  split at h
  ·cases h
  ·rename_i xs hf
   injection h with h; subst h
   exact ⟨O, none, xs, fun p hp => hp, hf, rfl, by simp⟩
  ·rename_i O' xs hf
   split at h
   ·rename_i hs
    injection h with h; subst h
    refine ⟨O, some O', xs, fun p hp => hp, hf, rfl, fun O2 h2 p hp => ?_⟩
    injection h2 with h2; subst h2
    unfold subO at hs
    simpa using List.all_eq_true.1 hs p hp
   ·obtain ⟨O1, r, xs', h1, h2, h3, h4⟩ := ih _ R h
    exact ⟨O1, r, xs', fun p hp => sub_inter1 p (h1 p hp), h2, h3, h4⟩
theorem lcode_succ {call : CallF} : ∀ (n : Nat) (c : Code) (e : Env) (H : Heap) (y : Ex × Env × Heap), lcode P C call n c e H = some y → lcode P C call (n + 1) c e H = some y := by
 intro n
 induction n with
 | zero => intro c e H y h; cases h
 | succ n ih =>
  intro c e H y h
  cases c with
  | seq a b =>
   simp only [lcode] at h
   rw [lcode]
   split at h
   ·rename_i e1 H1 h1
    rw [ih a e H _ h1]
    exact ih b e1 H1 y h
   ·rename_i hne
    rw [ih a e H _ h]
    obtain ⟨x, e1, H1⟩ := y
    cases x with
    | normal => exact absurd h (hne e1 H1)
    | exit i => rfl
    | ret => rfl
  | cond c a b =>
   simp only [lcode] at h
   rw [lcode]
   split at h
   ·rename_i t ht
    cases t with
    | true => exact ih a e H y (by simpa using h)
    | false => exact ih b e H y (by simpa using h)
   ·cases h
  | block id a =>
   simp only [lcode] at h
   rw [lcode]
   split at h
   ·rename_i i e1 H1 h1
    rw [ih a e H _ h1]
    exact h
   ·rename_i hne
    rw [ih a e H _ h]
    obtain ⟨x, e1, H1⟩ := y
    cases x with
    | normal => rfl
    | exit i => exact absurd h (hne i e1 H1)
    | ret => rfl
  | loop a =>
   simp only [lcode] at h
   rw [lcode]
   split at h
   ·rename_i e1 H1 h1
    rw [ih a e H _ h1]
    exact ih (.loop a) e1 H1 y h
   ·rename_i hne
    rw [ih a e H _ h]
    obtain ⟨x, e1, H1⟩ := y
    cases x with
    | normal => exact absurd h (hne e1 H1)
    | exit i => rfl
    | ret => rfl
  | skip => exact h
  | region id ops d => cases d <;> exact h
  | exit id => exact h
  | ret => exact h
  | _ => cases h
theorem lmono {call : CallF} {m n : Nat} {c : Code} {e : Env} {H : Heap} {y : Ex × Env × Heap} (hmn : m ≤ n) (h : lcode P C call m c e H = some y) : lcode P C call n c e H = some y := by
 induction hmn with
 | refl => exact h
 | step _ ih => exact lcode_succ _ c e H y ih
theorem lcode_ok {call : CallF} (hK : Known P C call) {ret : OSet → Bool} (hm : P.follows .mixedOrders = true) : ∀ (n : Nat) (c : Code) (R : ChkR) (O : OSet) (e : Env) (H : Heap) (F : Facts) (L : List Nat) (a : Act) (w : World) (x : Ex) (e' : Env) (H' : Heap) (Q : Exit → Act → World → Prop),
  chkCode P C N ret c O = some R → lcode P C call n c e H = some (x, e', H') → Inv P G F0 L0 w0 N O e H F L a w →
  (∀ O' F' L' a' w', Left ret R x O' → Inv P G F0 L0 w0 N O' e' H' F' L' a' w' → Q x.toExit a' w') → c.wp P Q a w := by
 intro n
 induction n with
 | zero => intro c R O e H F L a w x e' H' Q hc h; cases h
 | succ n ih =>
  intro c R O e H F L a w x e' H' Q hc h hI hQ
  cases c with
  | skip =>
   simp only [lcode] at h
   injection h with h; injection h with h1 h2; injection h2 with h2 h3; subst h1 h2 h3
   simp only [chkCode] at hc
   injection hc with hc; subst hc
   exact wp_skip (hQ O F L a w ⟨O, rfl, fun p hp => hp⟩ hI)
  | region id ops d =>
   cases d with
   | false =>
    simp only [lcode] at h
    obtain ⟨⟨e1, H1⟩, h1, h2⟩ := xoM.1 h
    injection h2 with h2 h3; injection h3 with h3 h4; subst h2 h3 h4
    simp only [chkCode] at hc
    obtain ⟨⟨O1, A1⟩, hc1, rfl⟩ := xoM.1 hc
    refine wp_region (lops_ok hK ops.toList (List.range ops.size) O [] e H F L a w e1 H1 O1 A1 (by simp) (fun k i o hk ho => ?_) hI (fun p hp => by simp at hp) h1 hc1 fun F' L' a' w' hI' => hQ O1 F' L' a' w' ⟨O1, rfl, fun p hp => hp⟩ hI')
    have hkl : k < ops.size := by
     have := (xgI.1 hk).1
     simpa using this
    rw [List.getElem?_range hkl] at hk
    injection hk with hk
    subst hk
    simpa using ho
   | true =>
    simp only [lcode] at h
    obtain ⟨⟨e1, H1⟩, h1, h2⟩ := xoM.1 h
    injection h2 with h2 h3; injection h3 with h3 h4; subst h2 h3 h4
    simp only [chkCode] at hc
    obtain ⟨O1, hc1, rfl⟩ := xoM.1 hc
    exact draw_ok hK hm hI hc1 h1 fun F' L' a' w' hI' => hQ O1 F' L' a' w' ⟨O1, rfl, fun p hp => hp⟩ hI'
  | seq c1 c2 =>
   simp only [lcode] at h
   simp only [chkCode] at hc
   split at hc
   ·rename_i O1 xs hc1
    obtain ⟨R2, hc2, rfl⟩ := xoM.1 hc
    refine wp_seq ?_
    split at h
    ·rename_i e1 H1 h1
     refine ih c1 _ O e H F L a w .normal e1 H1 _ hc1 h1 hI fun O' F' L' a' w' hl hI' => ?_
     obtain ⟨O2, he, hs⟩ := hl
     injection he with he; subst he
     exact ih c2 _ O1 e1 H1 F' L' a' w' x e' H' Q hc2 h (hI'.sub hs) fun O' F' L' a' w' hl hI' => hQ O' F' L' a' w' (by
      cases x with
      | normal => exact hl
      | exit id => obtain ⟨O1', h1, h2⟩ := hl; exact ⟨O1', List.mem_append_right _ h1, h2⟩
      | ret => exact hl) hI'
    ·rename_i hne
     refine ih c1 _ O e H F L a w x e' H' _ hc1 h hI fun O' F' L' a' w' hl hI' => ?_
     cases x with
     | normal => exact absurd h (hne e' H')
     | exit id =>
      obtain ⟨O1', h1, h2⟩ := hl
      exact hQ O' F' L' a' w' ⟨O1', List.mem_append_left _ h1, h2⟩ hI'
     | ret => exact hQ O' F' L' a' w' hl hI'
   ·rename_i hne
    refine wp_seq ?_
    split at h
    ·rename_i e1 H1 h1
     refine ih c1 _ O e H F L a w .normal e1 H1 _ hc h1 hI fun O' F' L' a' w' hl hI' => ?_
     obtain ⟨O2, he, hs⟩ := hl
     obtain ⟨R1, R2⟩ := R
     simp only at he
     subst he
     exact absurd hc (hne O2 R2)
    ·rename_i hne'
     refine ih c1 _ O e H F L a w x e' H' _ hc h hI fun O' F' L' a' w' hl hI' => ?_
     cases x with
     | normal => exact absurd h (hne' e' H')
     | exit id => exact hQ O' F' L' a' w' hl hI'
     | ret => exact hQ O' F' L' a' w' hl hI'
  | cond cc c1 c2 =>
   simp only [lcode] at h
   simp only [chkCode] at hc
   split at hc
   ·rename_i r1 r2 hc1 hc2
    injection hc with hc; subst hc
    split at h
    ·rename_i t ht
     have hr := hI.ev cc
     rw [ht] at hr
     obtain ⟨hv, _⟩ := hr.v_eq
     cases t with
     | true =>
      refine wp_cond_true hv.symm (ih c1 _ O e H F L a w x e' H' Q hc1 (by simpa using h) hI fun O' F' L' a' w' hl hI' => hQ O' F' L' a' w' ?_ hI')
      cases x with
      | normal =>
       obtain ⟨O1, h1, h2⟩ := hl
       obtain ⟨O2, h3, h4⟩ := join_left (y := r2.1) h1
       exact ⟨O2, h3, fun p hp => h2 p (h4 p hp)⟩
      | exit id => obtain ⟨O1', h1, h2⟩ := hl; exact ⟨O1', List.mem_append_left _ h1, h2⟩
      | ret => exact hl
     | false =>
      refine wp_cond_false hv.symm (ih c2 _ O e H F L a w x e' H' Q hc2 (by simpa using h) hI fun O' F' L' a' w' hl hI' => hQ O' F' L' a' w' ?_ hI')
      cases x with
      | normal =>
       obtain ⟨O1, h1, h2⟩ := hl
       obtain ⟨O2, h3, h4⟩ := join_right (x := r1.1) h1
       exact ⟨O2, h3, fun p hp => h2 p (h4 p hp)⟩
      | exit id => obtain ⟨O1', h1, h2⟩ := hl; exact ⟨O1', List.mem_append_right _ h1, h2⟩
      | ret => exact hl
    ·cases h
   ·cases hc
  | block id c1 =>
   simp only [lcode] at h
   simp only [chkCode] at hc
   obtain ⟨R1, hc1, rfl⟩ := xoM.1 hc
   refine wp_block ?_
   split at h
   ·rename_i i e1 H1 h1
    refine ih c1 R1 O e H F L a w (.exit i) e1 H1 _ hc1 h1 hI fun O' F' L' a' w' hl hI' => ?_
    obtain ⟨O1, hm, hs⟩ := hl
    show Exit.inBlock id Q (.exit i) a' w'
    simp only [Exit.inBlock]
    by_cases hi : i = id
    ·rw [if_pos hi] at h ⊢
     injection h with h; injection h with h1 h2; injection h2 with h2 h3; subst h1 h2 h3
     subst hi
     obtain ⟨O2, h4, h5⟩ := (join_fold ((R1.2.filter (·.1 == i)).map (·.2)) R1.1).2 O1 (List.mem_map.2 ⟨(i, O1), List.mem_filter.2 ⟨hm, by simp⟩, rfl⟩)
     exact hQ O' F' L' a' w' ⟨O2, h4, fun p hp => hs p (h5 p hp)⟩ hI'
    ·rw [if_neg hi] at h ⊢
     injection h with h; injection h with h1 h2; injection h2 with h2 h3; subst h1 h2 h3
     exact hQ O' F' L' a' w' ⟨O1, List.mem_filter.2 ⟨hm, by simpa using hi⟩, hs⟩ hI'
   ·rename_i hne
    refine ih c1 R1 O e H F L a w x e' H' _ hc1 h hI fun O' F' L' a' w' hl hI' => ?_
    cases x with
    | normal =>
     obtain ⟨O1, h1, h2⟩ := hl
     obtain ⟨O2, h4, h5⟩ := (join_fold ((R1.2.filter (·.1 == id)).map (·.2)) R1.1).1 O1 h1
     exact hQ O' F' L' a' w' ⟨O2, h4, fun p hp => h2 p (h5 p hp)⟩ hI'
    | exit i => exact absurd h (hne i e' H')
    | ret => exact hQ O' F' L' a' w' hl hI'
  | loop c1 =>
   simp only [chkCode] at hc
   obtain ⟨O1, r, xs, h1, h2, rfl, h4⟩ := fixLoop_some 4 O R hc
   have hdown : ∀ m a w, (m ≤ n + 1 ∧ ∃ e H F L, lcode P C call m (.loop c1) e H = some (x, e', H') ∧ Inv P G F0 L0 w0 N O1 e H F L a w) →
     c1.wp P (Exit.then (fun a' w' => ∃ k, k < m ∧ (k ≤ n + 1 ∧ ∃ e H F L, lcode P C call k (.loop c1) e H = some (x, e', H') ∧ Inv P G F0 L0 w0 N O1 e H F L a' w')) Q) a w := by
    rintro m a w ⟨hm, e, H, F, L, hl, hI⟩
    cases m with
    | zero => cases hl
    | succ m =>
     simp only [lcode] at hl
     have lift : ∀ (k : Nat) (y : Ex × Env × Heap), k ≤ n → lcode P C call k c1 e H = some y → ∀ Q', (∀ O' F' L' a' w', Left ret (r, xs) y.1 O' → Inv P G F0 L0 w0 N O' y.2.1 y.2.2 F' L' a' w' → Q' y.1.toExit a' w') → c1.wp P Q' a w := by
      intro k y hk hy Q' hQ'
      exact ih c1 (r, xs) O1 e H F L a w y.1 y.2.1 y.2.2 Q' h2 (lmono hk hy) hI hQ'
     split at hl
     ·rename_i e1 H1 hb
      refine lift m _ (by omega) hb _ fun O' F' L' a' w' hle hI' => ?_
      obtain ⟨O2, h5, h6⟩ := hle
      exact ⟨m, by omega, by omega, e1, H1, F', L', hl, hI'.sub fun p hp => h6 p (h4 O2 h5 p hp)⟩
     ·rename_i hne
      refine lift m (x, e', H') (by omega) hl _ fun O' F' L' a' w' hle hI' => ?_
      cases x with
      | normal => exact absurd hl (hne e' H')
      | exit i => exact hQ O' F' L' a' w' hle hI'
      | ret => exact hQ O' F' L' a' w' hle hI'
   exact wp_loop_down (J := fun m a w => m ≤ n + 1 ∧ ∃ e H F L, lcode P C call m (.loop c1) e H = some (x, e', H') ∧ Inv P G F0 L0 w0 N O1 e H F L a w) hdown (n + 1) a w ⟨Nat.le_refl _, e, H, F, L, h, hI.sub h1⟩
  | exit id =>
   simp only [lcode] at h
   injection h with h; injection h with h1 h2; injection h2 with h2 h3; subst h1 h2 h3
   simp only [chkCode] at hc
   injection hc with hc; subst hc
   exact wp_exit (hQ O F L a w ⟨O, by simp, fun p hp => hp⟩ hI)
  | ret =>
   simp only [lcode] at h
   injection h with h; injection h with h1 h2; injection h2 with h2 h3; subst h1 h2 h3
   simp only [chkCode] at hc
   split at hc
   ·rename_i hr
    exact wp_ret (hQ O F L a w hr hI)
   ·cases hc
  | _ => cases h
end
end Go.Lv
set_option linter.unusedVariables false
set_option linter.unusedSimpArgs false
namespace Go.Lv
section
variable {P : Program} {C : Cfg} {F : Facts} {L : List Nat} {w : World} {H : Heap}
theorem params0_mem : ∀ (ps : List (Option Nat)) (i : Nat) (p : Nat × Nat × Nat), p ∈ params0 i ps → ∃ k n, p = (i + k, 0, n) ∧ ps[k]? = some (some n) := by
 intro ps
 induction ps with
 | nil => intro i p h; simp [params0] at h
 | cons q ps ih =>
  intro i p h
  cases q with
  | none =>
   simp only [params0] at h
   obtain ⟨k, n, rfl, h2⟩ := ih (i + 1) p h
   exact ⟨k + 1, n, by rw [show i + 1 + k = i + (k + 1) by omega], by simpa using h2⟩
  | some m =>
   simp only [params0] at h
   rcases List.mem_cons.1 h with rfl | h
   ·exact ⟨0, m, rfl, rfl⟩
   ·obtain ⟨k, n, rfl, h2⟩ := ih (i + 1) p h
    exact ⟨k + 1, n, by rw [show i + 1 + k = i + (k + 1) by omega], by simpa using h2⟩
theorem mapM_res {e : Env} {tmps : Array Value} (hS : St P F L NX w H) (ht : ∀ t, Rel F L (e t) (tmps.getD t undef)) : ∀ (rs : List ResultVar) (as_ : List AV), rs.mapM (resA P e H) = some as_ →
  ∃ vs : List Value, (rs.mapM (fun | .tmp t => pure (tmps.getD t undef) | .cell a t => do loadVar t (← asAddr (tmps.getD a undef)) : ResultVar → Sem Value)).run P w = .ok vs w ∧ vs.length = as_.length ∧ as_.length = rs.length ∧
   (∀ (k : Nat) c, as_[k]? = some c → Rel F L c (vs.getD k undef)) ∧ ∀ (k t : Nat), rs[k]? = some (.tmp t) → vs.getD k undef = tmps.getD t undef := by
 intro rs
 induction rs with
 | nil => intro as_ h; simp at h; subst h; exact ⟨[], rfl, rfl, rfl, fun k c h => by simp at h, fun k t h => by simp at h⟩
 | cons r rs ih =>
  intro as_ h
  rw [List.mapM_cons] at h
  obtain ⟨a, ha, h⟩ := xoB.1 h
  obtain ⟨as_', has, h⟩ := xoB.1 h
  injection h with h; subst h
  obtain ⟨vs, h1, h2, h2', h3, h4⟩ := ih as_' has
  have one : ∃ v, ((fun | .tmp t => pure (tmps.getD t undef) | .cell a t => do loadVar t (← asAddr (tmps.getD a undef)) : ResultVar → Sem Value) r).run P w = .ok v w ∧ Rel F L a v ∧ ∀ t, r = .tmp t → v = tmps.getD t undef := by
   cases r with
   | tmp t =>
    simp only [resA] at ha
    injection ha with ha; subst ha
    exact ⟨_, rfl, ht t, fun t' h => by injection h with h; rw [h]⟩
   | cell p t =>
    simp only [resA] at ha
    have hp := ht p
    obtain ⟨u, hu, hr⟩ := loadA_run hS hp ha
    refine ⟨u, ?_, hr, fun t h => by cases h⟩
    unfold loadA at ha
    simp only [Sem.run_bind]
    generalize tmps.getD p undef = pv at hp hu ⊢
    split at ha
    ·rename_i j off hj
     rw [hj] at hp
     cases hp
     rename_i B hB
     simpa [Instr.loadAt, Instr.sureAddr, asAddr] using hu
    ·rename_i e' off hj
     rw [hj] at hp
     cases hp
     simpa [Instr.loadAt, Instr.sureAddr, asAddr] using hu
    ·cases ha
  obtain ⟨v, hv1, hv2, hv3⟩ := one
  refine ⟨v :: vs, ?_, by simp [h2], by simp [h2'], fun k c hk => ?_, fun k t hk => ?_⟩
  ·rw [List.mapM_cons]
   simp only [Sem.run_bind, hv1, Result.andThen_ok, h1, Sem.run_pure]
  ·cases k with
   | zero => simp at hk; subst hk; simpa using hv2
   | succ k => simpa using h3 k c (by simpa using hk)
  ·cases k with
   | zero => simp at hk; simpa using hv3 t hk
   | succ k => simpa using h4 k t (by simpa using hk)
theorem results_ok {fn : Func} {e : Env} {tmps : Array Value} {r : AV} (hS : St P F L NX w H) (ht : ∀ t, Rel F L (e t) (tmps.getD t undef)) (h : resultsA P fn e H = some r) :
  ∃ v, (results fn tmps).run P w = .ok v w ∧ Rel F L r v ∧ ∀ c t, resT fn c = some t → compOf v c = tmps.getD t undef := by
 unfold resultsA at h
 have key : ∀ as_, fn.results.toList.mapM (resA P e H) = some as_ → ∃ vs : List Value, (results fn tmps).run P w = .ok (if h : vs.toArray.size = 1 then vs.toArray[0] else .tuple vs.toArray) w ∧ vs.length = as_.length ∧ as_.length = fn.results.toList.length ∧
   (∀ (k : Nat) c, as_[k]? = some c → Rel F L c (vs.getD k undef)) ∧ ∀ (k t : Nat), fn.results.toList[k]? = some (.tmp t) → vs.getD k undef = tmps.getD t undef := by
  intro as_ has
  obtain ⟨vs, h1, h2, h2', h3, h4⟩ := mapM_res hS ht fn.results.toList as_ has
  refine ⟨vs, ?_, h2, h2', h3, h4⟩
  unfold results
  rw [← Array.toArray_toList (xs := fn.results), List.mapM_toArray]
  simp only [Sem.run_bind, Sem.run_map, Sem.run_pure]
  exact congrArg (fun z : Result (List Value) => (z.andThen fun a w' => Result.ok a.toArray w').andThen fun a w' => .ok (if h : a.size = 1 then a[0] else Value.tuple a) w') h1
 split at h
 ·rename_i a has
  injection h with h; subst h
  obtain ⟨vs, h1, h2, h2', h3, h4⟩ := key _ has
  obtain ⟨v, rfl⟩ : ∃ v, vs = [v] := by
   match vs, h2 with
   | [v], _ => exact ⟨v, rfl⟩
  refine ⟨v, by simpa using h1, by simpa using h3 0 a rfl, fun c t hc => ?_⟩
  unfold resT at hc
  split at hc
  ·rename_i t' hl
   injection hc with hc; subst hc
   simpa [compOf] using h4 0 t' (by rw [hl]; rfl)
  ·rename_i l i _
   split at hc
   ·rename_i h2l
    simp at h2'
    simp at h2l
    omega
   ·cases hc
  ·cases hc
 ·rename_i as_ hne has
  injection h with h; subst h
  obtain ⟨vs, h1, h2, h2', h3, h4⟩ := key _ has
  have hne1 : ¬ vs.toArray.size = 1 := by
   intro h0
   have h0' : as_.length = 1 := by simpa [← h2] using h0
   match as_, h0' with
   | [a], _ => exact hne a rfl
  rw [dif_neg hne1] at h1
  refine ⟨_, h1, .tup as_ vs h2 h3, fun c t hc => ?_⟩
  unfold resT at hc
  split at hc
  ·rename_i t' hl
   rw [hl] at h2'
   simp at hne1
   simp at h2'
   omega
  ·rename_i i
   split at hc
   ·split at hc
    ·rename_i t' hg
     injection hc with hc; subst hc
     have := h4 i t' hg
     simp only [compOf]
     rw [← this]
     simp [xgD, Array.getD_eq_getD_getElem?]
    ·cases hc
   ·cases hc
  ·cases hc
 ·cases h
structure World0 (P : Program) (C : Cfg) : Prop where
 ext : ∀ g s, C.ext g = some s → ∀ args H r H', s args H = some (r, H') → CallOK P (C.sig g) g args H r H'
 extc : ∀ g, (C.ext g).isSome = true → Callable P g
 chk : ∀ g, C.ext g = none → C.ok g = true → chkFn P C g = true
 dyn : ∀ g, C.dyn g = true → C.sig g = {}
 mixed : P.follows .mixedOrders = true
 alt : ∀ g s, C.alt g = some s → ∀ args H r H', s args H = some (r, H') → CallOK P {} g args H r H' ∧ Callable P g := by intro g s h; cases h
theorem chkFn_some {f : FuncId} (h : chkFn P C f = true) : ∃ fn c O R, P.funcs[f]? = some fn ∧ fn.body = some c ∧ chkCode P (C.at f) fn.ntmps (retOK fn (C.sig f).rs) c O = some R ∧ O = params0 0 (C.sig f).ps ∧ R.2 = [] ∧ (∀ O1, R.1 = some O1 → retOK fn (C.sig f).rs O1 = true) ∧ (fn.name == "runtime.NumGoroutine") = false := by
 unfold chkFn at h
 split at h
 ·rename_i fn hf
  split at h
  ·rename_i c hc
   split at h
   ·rename_i O hk
    simp only [Bool.and_eq_true, Bool.not_eq_true'] at h
    exact ⟨fn, c, _, _, hf, hc, hk, rfl, rfl, (fun O1 h1 => by injection h1 with h1; subst h1; exact h.1), h.2⟩
   ·rename_i hk
    simp only [Bool.not_eq_true'] at h
    exact ⟨fn, c, _, _, hf, hc, hk, rfl, rfl, (fun O1 h1 => by cases h1), h⟩
   ·cases h
  ·cases h
 ·cases h
theorem retOK_mono {fn : Func} {rs : List (Nat × Nat)} {O O' : OSet} (h : retOK fn rs O = true) (hs : ∀ p ∈ O, p ∈ O') : retOK fn rs O' = true := by
 unfold retOK at h ⊢
 simp only [Bool.and_eq_true] at h ⊢
 refine ⟨?_, h.2⟩
 rw [List.all_eq_true] at h ⊢
 intro p hp
 have := h.1 p hp
 split at this
 ·rename_i t ht
  simp only [List.contains_iff_mem] at this ⊢
  exact hs _ this
 ·cases this
theorem lcall_ok (W : World0 P C) : ∀ n, Known P C (lcall P C n) := by
 intro n
 induction n with
 | zero => exact ⟨(fun g args H r H' h => by cases h), W.dyn, W.alt⟩
 | succ n ih =>
  refine ⟨fun g args H r H' h => ?_, W.dyn, W.alt⟩
  unfold lcall at h
  split at h
  ·rename_i s hs
   exact ⟨W.ext g s hs args H r H' h, W.extc g (by rw [hs]; rfl)⟩
  ·rename_i hext
   split at h
   ·rename_i hok
    obtain ⟨fn, c, O, R, hf, hb, hck, rfl, hR2, hR1, hname⟩ := chkFn_some (W.chk g hext hok)
    refine ⟨?_, ⟨fn, hf, by rw [hb]; rfl, hname⟩⟩
    rw [hf] at h
    simp only [hb] at h
    split at h
    ·cases h
    ·rename_i x e1 H1 hnx hl
     obtain ⟨r', hr', he⟩ := xoM.1 h
     injection he with h1 h2; subst h1 h2
     intro F L w vs hS hlen hrel hargs hglob
     have htm : ∀ k, (vs.toArray ++ Array.replicate (fn.ntmps - vs.toArray.size) undef).getD k undef = vs.getD k undef := by
      intro k
      rw [Array.getD_eq_getD_getElem?, xgD, Array.getElem?_append]
      split
      ·simp
      ·rename_i hk
       simp at hk
       rw [Array.getElem?_replicate, List.getElem?_eq_none hk]
       split <;> rfl
     refine calls_of_wp hf hb ?_
     have hI : Inv P (GP (C.sig g).ps vs) F L w fn.ntmps (params0 0 (C.sig g).ps) (env0 args) H F L { tmps := vs.toArray ++ Array.replicate (fn.ntmps - vs.toArray.size) undef, defers := [] } w := by
      refine ⟨hS, Goes.refl _ F L w, fun t => ?_, by simp; omega, rfl, fun p hp => ?_, fun p hp q hq hne B hB => ?_, fun p hp B hB => .inl ?_, hglob⟩
      ·rw [htm t]
       unfold env0
       rw [xgD]
       cases hx : args[t]? with
       | none => exact .un _
       | some a => exact hrel t a hx
      ·obtain ⟨k, m, rfl, hk⟩ := params0_mem _ _ _ hp
       have := hargs.1 k m hk
       simp only [valAt, compOf, Nat.zero_add, htm]
       exact this
      ·obtain ⟨k, m, rfl, hk⟩ := params0_mem _ _ _ hp
       obtain ⟨k', m', rfl, hk'⟩ := params0_mem _ _ _ hq
       simp only [valAt, compOf, Nat.zero_add, htm] at hB ⊢
       exact hargs.2 k k' m m' hk hk' (fun h => hne (by simp [h])) B hB
      ·obtain ⟨k, m, rfl, hk⟩ := params0_mem _ _ _ hp
       simp only [valAt, compOf, Nat.zero_add, htm] at hB
       exact ⟨k, m, hk, hB⟩
     refine lcode_ok (C := C.at g) ⟨ih.ok, ih.dyn, ih.alt⟩ W.mixed n c R _ _ _ _ _ _ _ x e1 H1 _ hck hl hI fun O' F' L' a' w' hleft hI' => ?_
     have hret : retOK fn (C.sig g).rs O' = true := by
      cases x with
      | normal =>
       obtain ⟨O1, h1, h2⟩ := hleft
       exact retOK_mono (hR1 O1 h1) h2
      | exit id => exact (hnx id rfl).elim
      | ret => exact hleft
     obtain ⟨v, hv1, hv2, hv3⟩ := results_ok hI'.st hI'.tie hr'
     have hR : Ret P (C.sig g) F L w vs r' H1 v F' L' w' := by
      unfold retOK at hret
      simp only [Bool.and_eq_true, List.all_eq_true] at hret
      have place : ∀ p ∈ (C.sig g).rs, ∃ t, resT fn p.1 = some t ∧ (t, 0, p.2) ∈ O' ∧ compOf v p.1 = valAt a' t 0 := by
       intro p hp
       have := hret.1 p hp
       split at this
       ·rename_i t ht
        exact ⟨t, ht, by simpa using this, hv3 _ _ ht⟩
       ·cases this
      refine ⟨hv2, hI'.st, hI'.goes, fun p hp => ?_, fun p hp q hq hne B hB => ?_⟩
      ·obtain ⟨t, h1, h2, h3⟩ := place p hp
       rw [h3]
       exact ⟨hI'.own _ h2, fun B hB => hI'.frm _ h2 B hB⟩
      ·obtain ⟨t, h1, h2, h3⟩ := place p hp
       obtain ⟨t', h1', h2', h3'⟩ := place q hq
       rw [h3] at hB
       rw [h3']
       have := hret.2 p hp q hq
       simp only [Bool.or_eq_true, beq_iff_eq, Bool.not_eq_true', beq_eq_false_iff_ne] at this
       refine hI'.apart _ h2 _ h2' (fun he => ?_) B hB
       injection he with he1
       rcases this with h | h
       ·exact hne h
       ·rw [h1, h1'] at h; exact h (congrArg some he1)
     cases x with
     | normal => exact ⟨hI'.defers, v, hv1, v, F', L', rfl, hR⟩
     | exit id => exact (hnx id rfl).elim
     | ret => exact ⟨hI'.defers, v, hv1, v, F', L', rfl, hR⟩
    ·cases h
   ·cases h
end
end Go.Lv
set_option linter.unusedVariables false
set_option linter.unusedSimpArgs false
namespace Go.Lv
def CLe (c1 c2 : CallF) : Prop := ∀ f a H r, c1 f a H = some r → c2 f a H = some r
theorem stepB_mono {P : Program} {C : Cfg} {c1 c2 : CallF} (hc : CLe c1 c2) {e : Env} {H : Heap} {o : Op} {r} (h : stepB P C c1 e H o = some r) : stepB P C c2 e H o = some r := by
 unfold stepB at h ⊢
 split at h
 ·split at h
  ·exact hc _ _ _ _ h
  ·split at h
   ·rename_i hd
    rw [if_pos hd]; exact hc _ _ _ _ h
   ·cases h
  ·cases h
 ·exact h
theorem via_mono {C : Cfg} {c1 c2 : CallF} (hc : CLe c1 c2) (d : Option Nat) : CLe (C.via d c1) (C.via d c2) := by
 intro f a H r h
 unfold Cfg.via at h ⊢
 split at h
 ·exact h
 ·exact hc _ _ _ _ h
theorem stepA_mono {P : Program} {C : Cfg} {c1 c2 : CallF} (hc : CLe c1 c2) {d : Option Nat} {e : Env} {H : Heap} {o : Op} {r} (h : stepA P C c1 d e H o = some r) : stepA P C c2 d e H o = some r := by
 unfold stepA at h ⊢
 split at h
 ·rename_i hm; rw [if_pos hm]; exact h
 ·rename_i hm; rw [if_neg hm]; exact stepB_mono (via_mono hc d) h
theorem lops_mono {P : Program} {C : Cfg} {c1 c2 : CallF} (hc : CLe c1 c2) (all : Array Oper) : ∀ (l : List Oper) (e : Env) (H : Heap) r, lops P C c1 all l e H = some r → lops P C c2 all l e H = some r := by
 intro l
 induction l with
 | nil => intro e H r h; exact h
 | cons o l ih =>
  intro e H r h
  unfold lops at h ⊢
  cases hw : wants all e o with
  | none => rw [hw] at h; cases h
  | some t =>
   rw [hw] at h
   cases t with
   | false => exact ih _ _ _ h
   | true =>
    obtain ⟨⟨a, H'⟩, h1, h2⟩ := xoB.1 h
    rw [stepA_mono hc h1]
    exact ih _ _ _ h2
theorem lopsD_mono {P : Program} {C : Cfg} {c1 c2 : CallF} (hc : CLe c1 c2) (all : Array Oper) : ∀ (l : List Oper) (i : Nat) (e : Env) (H : Heap) (S : Seen) r, lopsD P C c1 all i l e H S = some r → lopsD P C c2 all i l e H S = some r := by
 intro l
 induction l with
 | nil => intro i e H S r h; exact h
 | cons o l ih =>
  intro i e H S r h
  unfold lopsD at h ⊢
  cases hw : wants all e o with
  | none => rw [hw] at h; cases h
  | some t =>
   rw [hw] at h
   cases t with
   | false => exact ih _ _ _ _ _ h
   | true =>
    obtain ⟨⟨a, H'⟩, h1, h2⟩ := xoB.1 h
    obtain ⟨S', h3, h4⟩ := xoB.1 h2
    rw [stepA_mono hc h1]
    simp only [Option.bind_some, h3]
    exact ih _ _ _ _ _ h4
theorem lcode_mono {P : Program} {C : Cfg} {c1 c2 : CallF} (hc : CLe c1 c2) : ∀ (m n : Nat), m ≤ n → ∀ (c : Code) (e : Env) (H : Heap) y, lcode P C c1 m c e H = some y → lcode P C c2 n c e H = some y := by
 intro m
 induction m with
 | zero => intro n _ c e H y h; cases h
 | succ m ih =>
  intro n hn c e H y h
  obtain ⟨n, rfl⟩ : ∃ k, n = k + 1 := ⟨n - 1, by omega⟩
  have ih := ih n (by omega)
  cases c with
  | seq a b =>
   simp only [lcode] at h ⊢
   split at h
   ·rename_i e1 H1 h1
    rw [ih a e H _ h1]
    exact ih b e1 H1 y h
   ·rename_i hne
    rw [ih a e H _ h]
    obtain ⟨x, e1, H1⟩ := y
    cases x with
    | normal => exact absurd h (hne e1 H1)
    | exit i => rfl
    | ret => rfl
  | cond c a b =>
   simp only [lcode] at h ⊢
   split at h
   ·rename_i t ht
    cases t with
    | true => exact ih a e H y (by simpa using h)
    | false => exact ih b e H y (by simpa using h)
   ·cases h
  | block id a =>
   simp only [lcode] at h ⊢
   split at h
   ·rename_i i e1 H1 h1
    rw [ih a e H _ h1]
    exact h
   ·rename_i hne
    rw [ih a e H _ h]
    obtain ⟨x, e1, H1⟩ := y
    cases x with
    | normal => rfl
    | exit i => exact absurd h (hne i e1 H1)
    | ret => rfl
  | loop a =>
   simp only [lcode] at h ⊢
   split at h
   ·rename_i e1 H1 h1
    rw [ih a e H _ h1]
    exact ih (.loop a) e1 H1 y h
   ·rename_i hne
    rw [ih a e H _ h]
    obtain ⟨x, e1, H1⟩ := y
    cases x with
    | normal => exact absurd h (hne e1 H1)
    | exit i => rfl
    | ret => rfl
  | skip => exact h
  | region id ops d =>
   cases d with
   | false =>
    simp only [lcode] at h ⊢
    obtain ⟨r, h1, h2⟩ := xoM.1 h
    rw [lops_mono hc _ _ _ _ _ h1, Option.map_some, h2]
   | true =>
    simp only [lcode] at h ⊢
    obtain ⟨r, h1, h2⟩ := xoM.1 h
    rw [lopsD_mono hc _ _ _ _ _ _ _ h1, Option.map_some, h2]
  | exit id => exact h
  | ret => exact h
  | _ => cases h
theorem lcall_succ {P : Program} {C : Cfg} : ∀ n, CLe (lcall P C n) (lcall P C (n + 1)) := by
 intro n
 induction n with
 | zero => intro f a H r h; cases h
 | succ n ih =>
  intro f a H r h
  rw [lcall] at h ⊢
  split at h
  ·rename_i g hg; exact h
  ·rename_i hg
   by_cases hok : C.ok f = true
   ·rw [if_pos hok] at h ⊢
    cases hfn : P.funcs[f]? with
    | none => rw [hfn] at h; cases h
    | some fn =>
     rw [hfn] at h
     simp only at h ⊢
     cases hb : fn.body with
     | none => rw [hb] at h; cases h
     | some c =>
      rw [hb] at h
      simp only at h ⊢
      cases hl : lcode P (C.at f) (lcall P C n) n c (env0 a) H with
      | none => rw [hl] at h; cases h
      | some y =>
       rw [hl] at h
       rw [lcode_mono ih n (n + 1) (by omega) c _ _ _ hl]
       exact h
   ·rw [if_neg hok] at h; cases h
theorem lcall_le {P : Program} {C : Cfg} {m n : Nat} (h : m ≤ n) : CLe (lcall P C m) (lcall P C n) := by
 induction h with
 | refl => exact fun f a H r h => h
 | step _ ih => exact fun f a H r h => lcall_succ _ f a H r (ih f a H r h)
theorem lcall_at {P : Program} {C : Cfg} {f : FuncId} : ∀ n, lcall P (C.at f) n = lcall P C n := by
 intro n
 induction n with
 | zero => rfl
 | succ n ih =>
  funext g args H
  rw [lcall, lcall, ih]
  rfl
def WF (P : Program) (C : Cfg) (f : FuncId) (args : List AV) (H : Heap) (Q : AV → Heap → Prop) : Prop := ∃ n r H', lcall P C n f args H = some (r, H') ∧ Q r H'
def WC (P : Program) (C : Cfg) (c : Code) (e : Env) (H : Heap) (Q : Ex → Env → Heap → Prop) : Prop := ∃ n x e' H', lcode P C (lcall P C n) n c e H = some (x, e', H') ∧ Q x e' H'
def WO (P : Program) (C : Cfg) (all : Array Oper) (l : List Oper) (e : Env) (H : Heap) (Q : Env → Heap → Prop) : Prop := ∃ n e' H', lops P C (lcall P C n) all l e H = some (e', H') ∧ Q e' H'
def WD (P : Program) (C : Cfg) (all : Array Oper) (i : Nat) (l : List Oper) (e : Env) (H : Heap) (S : Seen) (Q : Env → Heap → Prop) : Prop := ∃ n e' H', lopsD P C (lcall P C n) all i l e H S = some (e', H') ∧ Q e' H'
def WS (P : Program) (C : Cfg) (d : Option Nat) (e : Env) (H : Heap) (o : Op) (Q : AV → Heap → Prop) : Prop := ∃ n a H', stepA P C (lcall P C n) d e H o = some (a, H') ∧ Q a H'
section
variable {P : Program} {C : Cfg}
theorem WF.mono {f args H} {Q Q' : AV → Heap → Prop} (h : WF P C f args H Q) (hq : ∀ r H', Q r H' → Q' r H') : WF P C f args H Q' := by
 obtain ⟨n, r, H', h1, h2⟩ := h; exact ⟨n, r, H', h1, hq _ _ h2⟩
theorem WC.mono {c e H} {Q Q' : Ex → Env → Heap → Prop} (h : WC P C c e H Q) (hq : ∀ x e' H', Q x e' H' → Q' x e' H') : WC P C c e H Q' := by
 obtain ⟨n, x, e', H', h1, h2⟩ := h; exact ⟨n, x, e', H', h1, hq _ _ _ h2⟩
def qSeq (P : Program) (C : Cfg) (b : Code) (Q : Ex → Env → Heap → Prop) : Ex → Env → Heap → Prop
 | .normal, e, H => WC P C b e H Q
 | x, e, H => Q x e H
def qBlock (id : Nat) (Q : Ex → Env → Heap → Prop) : Ex → Env → Heap → Prop
 | .exit i, e, H => if i = id then Q .normal e H else Q (.exit i) e H
 | x, e, H => Q x e H
theorem WC.skip {e H Q} (h : Q .normal e H) : WC P C .skip e H Q := ⟨1, _, _, _, rfl, h⟩
theorem WC.exit {id e H Q} (h : Q (.exit id) e H) : WC P C (.exit id) e H Q := ⟨1, _, _, _, rfl, h⟩
theorem WC.ret {e H Q} (h : Q .ret e H) : WC P C .ret e H Q := ⟨1, _, _, _, rfl, h⟩
theorem WC.seq {a b e H Q} (h : WC P C a e H (qSeq P C b Q)) : WC P C (.seq a b) e H Q := by
 obtain ⟨n, x, e', H', h1, h2⟩ := h
 cases x with
 | normal =>
  obtain ⟨m, x, e2, H2, h3, h4⟩ := h2
  refine ⟨max m n + 1, x, e2, H2, ?_, h4⟩
  rw [lcode, lcode_mono (lcall_le (by omega)) n (max m n) (by omega) _ _ _ _ h1]
  exact lcode_mono (lcall_le (by omega)) m (max m n) (by omega) _ _ _ _ h3
 | exit i =>
  refine ⟨n + 1, _, _, _, ?_, h2⟩
  rw [lcode, lcode_mono (lcall_le (by omega)) n n (by omega) _ _ _ _ h1]
 | ret =>
  refine ⟨n + 1, _, _, _, ?_, h2⟩
  rw [lcode, lcode_mono (lcall_le (by omega)) n n (by omega) _ _ _ _ h1]
theorem WC.block {id a e H Q} (h : WC P C a e H (qBlock id Q)) : WC P C (.block id a) e H Q := by
 obtain ⟨n, x, e', H', h1, h2⟩ := h
 have h1 := lcode_mono (P := P) (C := C) (lcall_le (Nat.le_succ n)) n n (Nat.le_refl n) _ _ _ _ h1
 cases x with
 | normal => exact ⟨n + 1, _, _, _, by rw [lcode, h1], h2⟩
 | exit i =>
  simp only [qBlock] at h2
  by_cases hi : i = id
  ·rw [if_pos hi] at h2
   exact ⟨n + 1, _, _, _, by rw [lcode, h1]; simp only [if_pos hi], h2⟩
  ·rw [if_neg hi] at h2
   exact ⟨n + 1, _, _, _, by rw [lcode, h1]; simp only [if_neg hi], h2⟩
 | ret => exact ⟨n + 1, _, _, _, by rw [lcode, h1], h2⟩
theorem WC.cond {c a b e H Q} (t : Bool) (hc : ev e c = .b t) (h1 : t = true → WC P C a e H Q) (h0 : t = false → WC P C b e H Q) : WC P C (.cond c a b) e H Q := by
 cases t with
 | true =>
  obtain ⟨n, x, e', H', h, hq⟩ := h1 rfl
  exact ⟨n + 1, _, _, _, by rw [lcode, hc]; simpa using lcode_mono (P := P) (C := C) (lcall_le (Nat.le_succ n)) n n (Nat.le_refl n) _ _ _ _ h, hq⟩
 | false =>
  obtain ⟨n, x, e', H', h, hq⟩ := h0 rfl
  exact ⟨n + 1, _, _, _, by rw [lcode, hc]; simpa using lcode_mono (P := P) (C := C) (lcall_le (Nat.le_succ n)) n n (Nat.le_refl n) _ _ _ _ h, hq⟩
theorem WC.loop1 {a e H Q} (h : WC P C a e H (qSeq P C (.loop a) Q)) : WC P C (.loop a) e H Q := by
 obtain ⟨n, x, e', H', h1, h2⟩ := h
 cases x with
 | normal =>
  obtain ⟨m, x, e2, H2, h3, h4⟩ := h2
  refine ⟨max m n + 1, x, e2, H2, ?_, h4⟩
  rw [lcode, lcode_mono (lcall_le (by omega)) n (max m n) (by omega) _ _ _ _ h1]
  exact lcode_mono (lcall_le (by omega)) m (max m n) (by omega) _ _ _ _ h3
 | exit i =>
  refine ⟨n + 1, _, _, _, ?_, h2⟩
  rw [lcode, lcode_mono (lcall_le (by omega)) n n (by omega) _ _ _ _ h1]
 | ret =>
  refine ⟨n + 1, _, _, _, ?_, h2⟩
  rw [lcode, lcode_mono (lcall_le (by omega)) n n (by omega) _ _ _ _ h1]
def qLoop {σ : Type} (I : σ → Env → Heap → Prop) (m : σ → Nat) (s : σ) (Q : Ex → Env → Heap → Prop) : Ex → Env → Heap → Prop
 | .normal, e, H => ∃ s', I s' e H ∧ m s' < m s
 | x, e, H => Q x e H
theorem WC.loop {σ : Type} (I : σ → Env → Heap → Prop) (m : σ → Nat) {a e H Q} (s : σ) (h0 : I s e H) (step : ∀ s e H, I s e H → WC P C a e H (qLoop I m s Q)) : WC P C (.loop a) e H Q := by
 have key : ∀ k s e H, m s < k → I s e H → WC P C (.loop a) e H Q := by
  intro k
  induction k with
  | zero => intro s e H h; omega
  | succ k ih =>
   intro s e H hk hI
   refine WC.loop1 ((step s e H hI).mono ?_)
   intro x e' H' hx
   cases x with
   | normal =>
    obtain ⟨s', h1, h2⟩ := hx
    exact ih s' e' H' (by omega) h1
   | exit i => exact hx
   | ret => exact hx
 exact key (m s + 1) s e H (by omega) h0
theorem WC.region {id ops e H Q} (h : WO P C ops ops.toList e H (Q .normal)) : WC P C (.region id ops false) e H Q := by
 obtain ⟨n, e', H', h1, h2⟩ := h
 exact ⟨n + 1, _, _, _, by rw [lcode, lops_mono (lcall_le (Nat.le_succ n)) _ _ _ _ _ h1]; rfl, h2⟩
theorem WC.regionD {id ops e H Q} (h : WD P C ops 0 ops.toList e H {} (Q .normal)) : WC P C (.region id ops true) e H Q := by
 obtain ⟨n, e', H', h1, h2⟩ := h
 exact ⟨n + 1, _, _, _, by rw [lcode, lopsD_mono (lcall_le (Nat.le_succ n)) _ _ _ _ _ _ _ h1]; rfl, h2⟩
theorem WF.at {f g : FuncId} {args : List AV} {H : Heap} {Q : AV → Heap → Prop} : WF P (C.at f) g args H Q = WF P C g args H Q := by
 unfold WF
 simp only [lcall_at]
theorem WF.call {f args H Q} {fn : Func} {c : Code} (he : C.ext f = none) (hok : C.ok f = true) (hf : P.funcs[f]? = some fn) (hb : fn.body = some c)
  (h : WC P (C.at f) c (env0 args) H (fun x e H' => (∀ i, x ≠ .exit i) ∧ ∃ a, resultsA P fn e H' = some a ∧ Q a H')) : WF P C f args H Q := by
 obtain ⟨n, x, e', H', h1, h2, a, h3, h4⟩ := h
 rw [lcall_at] at h1
 refine ⟨n + 1, a, H', ?_, h4⟩
 rw [lcall, he]
 simp only [if_pos hok, hf, hb, h1]
 cases x with
 | exit i => exact absurd rfl (h2 i)
 | normal => simp [h3]
 | ret => simp [h3]
theorem WF.ext {f args H Q g r H'} (he : C.ext f = some g) (h : g args H = some (r, H')) (hq : Q r H') : WF P C f args H Q :=
 ⟨1, r, H', by rw [lcall, he]; exact h, hq⟩
theorem WO.nil {all e H Q} (h : Q e H) : WO P C all [] e H Q := ⟨0, _, _, rfl, h⟩
theorem WO.step {all o r e H Q} (hw : wants all e o = some true) (h : WS P C o.dst e H o.op (fun a H' => WO P C all r (put e o.dst a) H' Q)) : WO P C all (o :: r) e H Q := by
 obtain ⟨n, a, H', h1, m, e2, H2, h2, h3⟩ := h
 refine ⟨max m n, e2, H2, ?_, h3⟩
 rw [lops, hw]
 simp only [stepA_mono (lcall_le (Nat.le_max_right m n)) h1, Option.bind_some]
 exact lops_mono (lcall_le (Nat.le_max_left m n)) _ _ _ _ _ h2
theorem WO.pass {all o r e H Q} (hw : wants all e o = some false) (h : WO P C all r (put e o.dst skipA) H Q) : WO P C all (o :: r) e H Q := by
 obtain ⟨n, e2, H2, h2, h3⟩ := h
 refine ⟨n, e2, H2, ?_, h3⟩
 rw [lops, hw]
 exact h2
theorem WD.nil {all i e H S Q} (h : Q e H) : WD P C all i [] e H S Q := ⟨0, _, _, rfl, h⟩
theorem WD.pass {all i o r e H S Q} (hw : wants all e o = some false) (h : WD P C all (i + 1) r (put e o.dst skipA) H S Q) : WD P C all i (o :: r) e H S Q := by
 obtain ⟨n, e2, H2, h2, h3⟩ := h
 refine ⟨n, e2, H2, ?_, h3⟩
 rw [lopsD, hw]
 exact h2
theorem WD.step {all i o r e H S Q} (hw : wants all e o = some true) (h : WS P C o.dst e H o.op (fun a H' => ∃ S', seenOK P all i e S o.op a H H' = some S' ∧ WD P C all (i + 1) r (put e o.dst a) H' S' Q)) : WD P C all i (o :: r) e H S Q := by
 obtain ⟨n, a, H', h1, S', h0, m, e2, H2, h2, h3⟩ := h
 refine ⟨max m n, e2, H2, ?_, h3⟩
 rw [lopsD, hw]
 simp only [stepA_mono (lcall_le (Nat.le_max_right m n)) h1, Option.bind_some, h0]
 exact lopsD_mono (lcall_le (Nat.le_max_left m n)) _ _ _ _ _ _ _ h2
end
end Go.Lv
