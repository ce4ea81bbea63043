import Derived.Test.YticlhjamafdmfaaLvMu
set_option linter.unusedVariables false
set_option linter.unusedSimpArgs false
/-! Slices whose spare room is their own. -/
namespace Go.Lv
section
variable {P : Program} {C : Cfg} {G : Nat → Prop} {F0 : Facts} {L0 : List Nat} {w0 : World} {N : Nat} {O O' : OSet} {A A' : List (Nat × Nat)} {e : Env} {H : Heap} {F : Facts} {L : List Nat} {a : Act} {w : World}

theorem St.dead (hS : St P F L NX w H) (j : Nat) : St P F L NX w (H.set j []) :=
  ⟨hS.mem, by simp [hS.len], fun j' cs' B' hj' hne' hmv' hB' => hS.obj j' cs' B' (set_live hj' hne').2 hne' hmv' hB', hS.lt, fun j' cs' B' hj' hne' hB' => hS.nof j' cs' B' (set_live hj' hne').2 hne' hB', hS.nox,
    fun i1 j1 c1 c2 B1 hi1 hn1 hj1 hn2 hb1 hb2 => hS.inj i1 j1 c1 c2 B1 (set_live hi1 hn1).2 hn1 (set_live hj1 hn2).2 hn2 hb1 hb2, hS.xlt, hS.room0,
    fun j' ks vs B' hj' hB' => hS.mob j' ks vs B' (set_live hj' (by simp)).2 hB'⟩

/-- A mark for a block that nobody else has. -/
theorem St.addTk (hS : St P F L NX w H) {B lo r : Nat} {arr : List Value} {t : TypeId} (hw : w.heap[B]? = some (.cells arr.toArray t (0, 0))) (hB : B ∉ L) (hr : r ≤ arr.length) (hr0 : F.room B = 0) (h1 : 1 ≤ arr.length) (hf : ∀ i, lo ≤ i → F B i = none)
    {Fx : Facts} {Lx : List Nat} {wx : World} (hgo : Goes (fun _ => False) Fx Lx wx F L w) (hBx : wx.heap.size ≤ B) :
    ∃ F' : Facts, F'.get = F.get ∧ F'.room B = r ∧ St P F' (L ++ [B]) NX w (H ++ [[.tk lo]]) ∧ Goes (fun _ => False) Fx Lx wx F' (L ++ [B]) w := by
  obtain ⟨F', hFg, hFr⟩ : ∃ F' : Facts, F'.get = F.get ∧ ∀ b, F'.room b = if b = B then r else F.room b := ⟨⟨F.get, fun b => if b = B then r else F.room b⟩, rfl, fun _ => rfl⟩
  have hget : ∀ b i, F' b i = F b i := fun b i => by rw [hFg]
  have hBlt : B < w.heap.size := (Array.getElem?_eq_some_iff.1 hw).1
  have hrm : ∀ b, F.room b ≤ F'.room b := by
    intro b
    rw [hFr]
    split
    · rename_i h; subst h; omega
    · exact Nat.le_refl _
  have hpre : ∀ (j b : Nat), L[j]? = some b → (L ++ [B])[j]? = some b := by
    intro j b h
    rw [List.getElem?_append_left (List.getElem?_eq_some_iff.1 h).1]
    exact h
  have hmono : ∀ {a v}, Rel F L a v → Rel F' (L ++ [B]) a v := fun h => h.mono (fun b i v h => by rw [hget]; exact h) hrm hpre
  have hgo' : Goes (fun _ => False) Fx Lx wx F' (L ++ [B]) w :=
    ⟨hgo.size, fun b hb hg hL => ⟨(hgo.keep b hb hg hL).1, fun i => by rw [hget]; exact (hgo.keep b hb hg hL).2 i⟩, fun b i v h => by rw [hget]; exact hgo.mono _ _ _ h, fun j b h => hpre _ _ (hgo.pre _ _ h),
      fun b hb => by
        rcases List.mem_append.1 hb with h | h
        · exact hgo.newL b h
        · simp at h; subst h; exact .inr hBx, hgo.rest, fun b => Nat.le_trans (hgo.room b) (hrm b)⟩
  have old : ∀ (j : Nat) cs' b, (H ++ [[.tk lo]])[j]? = some cs' → (L ++ [B])[j]? = some b → (H[j]? = some cs' ∧ L[j]? = some b ∧ b ≠ B) ∨ (j = L.length ∧ cs' = [.tk lo] ∧ b = B) := by
    intro j cs' b hj hb
    rcases Nat.lt_or_ge j L.length with hjl | hjl
    · rw [List.getElem?_append_left hjl] at hb
      rw [List.getElem?_append_left (hS.len ▸ hjl)] at hj
      exact .inl ⟨hj, hb, fun e => hB (e ▸ mem_of_get hb)⟩
    · rw [List.getElem?_append_right hjl] at hb
      rw [List.getElem?_append_right (hS.len ▸ hjl)] at hj
      have h0 : j - L.length = 0 := by
        have := (List.getElem?_eq_some_iff.1 hb).1
        simp at this
        omega
      rw [h0] at hb
      rw [← hS.len, h0] at hj
      simp at hb hj
      exact .inr ⟨by omega, hj.symm, hb.symm⟩
  refine ⟨F', hFg, by rw [hFr, if_pos rfl], ⟨fun b i v h => ?_, by simp [hS.len], fun j cs' b hj hne hmv hb => ?_, fun b hb => ?_, fun j cs' b hj hne hb i hi => ?_, fun b hb => by simp [NX], fun i j cs1 cs2 b hi hn1 hj hn2 hBi hBj => ?_, fun b hb => by simp [NX] at hb, fun b hb => ?_, fun j ks vs b hj hb => ?_⟩, hgo'⟩
  · rw [hget] at h; exact hS.mem _ _ _ h
  · rcases old j cs' b hj hb with ⟨k1, k2, k3⟩ | ⟨k1, rfl, rfl⟩
    · obtain ⟨arr', t', m1, m2, m3, m4⟩ := hS.obj j cs' b k1 hne hmv k2
      exact ⟨arr', t', m1, m2, by rw [hFr, if_neg k3]; exact m3, fun k c hk => hmono (m4 k c hk)⟩
    · exact ⟨arr, t, hw, by simpa using h1, by rw [hFr, if_pos rfl]; exact hr, fun k c hk => by
        have : c = .tk lo := by
          cases k with
          | zero => simpa using hk.symm
          | succ k => simp at hk
        subst this; exact .tk _ _⟩
  · rcases List.mem_append.1 hb with h | h
    · exact hS.lt b h
    · simp at h; subst h; exact hBlt
  · rw [hget]
    rcases old j cs' b hj hb with ⟨k1, k2, k3⟩ | ⟨k1, rfl, rfl⟩
    · exact hS.nof j cs' b k1 hne k2 i hi
    · exact hf i hi
  · rcases old i cs1 b hi hBi with ⟨k1, k2, k3⟩ | ⟨k1, k2, k3⟩ <;> rcases old j cs2 b hj hBj with ⟨m1, m2, m3⟩ | ⟨m1, m2, m3⟩
    · exact hS.inj i j cs1 cs2 b k1 hn1 m1 hn2 k2 m2
    · exact absurd m3 k3
    · exact absurd k3 m3
    · omega
  · rw [hFr, if_neg (by omega)]
    exact hS.room0 b hb
  · rcases old j _ b hj hb with ⟨k1, k2, k3⟩ | ⟨k1, k2, k3⟩
    · obtain ⟨es, fs, clk, m1, mst, mpm, m2, m3, m4, m5⟩ := hS.mob j ks vs b k1 k2
      refine ⟨es, fs, clk, m1, mst, mpm, m2, m3, fun i k hk => ?_, fun i v hv => ?_⟩
      · obtain ⟨e, he, hr⟩ := m4 i k hk
        exact ⟨e, he, hmono hr⟩
      · obtain ⟨e, he, hr⟩ := m5 i v hv
        exact ⟨e, he, hmono hr⟩
    · cases k2

/-- More cells behind a slice, in its own spare room. -/
theorem St.tkIn (hS : St P F L NX w H) {j B lo : Nat} (hj : H[j]? = some [.tk lo]) (hB : L[j]? = some B) {news : List Value} (hn1 : ∀ u ∈ news, u.oneCell' = true) {arr : List Value} {t : TypeId} (hw : w.heap[B]? = some (.cells arr.toArray t (0, 0)))
    (hfit : lo + news.length ≤ arr.length) (hroom : F.room B ≤ arr.length) :
    ∃ F' : Facts, F'.room = F.room ∧ (∀ b i, F' b i = if b = B ∧ lo ≤ i ∧ i < lo + news.length then news[i - lo]? else F b i) ∧ St P F' (L ++ [B]) NX (w.setCells B lo news) (H.set j [] ++ [[.tk (lo + news.length)]]) ∧ Goes (fun _ => False) F L w F' (L ++ [B]) (w.setCells B lo news) := by
  obtain ⟨F', hFr, hF'⟩ : ∃ F' : Facts, F'.room = F.room ∧ ∀ b i, F' b i = if b = B ∧ lo ≤ i ∧ i < lo + news.length then news[i - lo]? else F b i := ⟨⟨fun b i => if b = B ∧ lo ≤ i ∧ i < lo + news.length then news[i - lo]? else F b i, F.room⟩, rfl, fun _ _ => rfl⟩
  have hBL := mem_of_get hB
  have hne : ([AV.tk lo] : List AV) ≠ [] := by simp
  have hsize : (w.setCells B lo news).heap.size = w.heap.size := setCells_size B news lo w
  have hother : ∀ i, i < w.heap.size → i ≠ B → (w.setCells B lo news).heap[i]? = w.heap[i]? := fun i hi hne => World.heap_setCells_other w B lo news hi hne
  obtain ⟨arr', k1, k2, k3⟩ := setCells_row B news lo w arr t hw hfit
  have hmono : ∀ b i v, F b i = some v → F' b i = some v := by
    intro b i v h
    rw [hF']
    split
    · rename_i hh
      obtain ⟨rfl, h2, h3⟩ := hh
      rw [hS.nof j _ b hj hne hB i h2] at h
      cases h
    · exact h
  have hgo : Goes (fun _ => False) F L w F' (L ++ [B]) (w.setCells B lo news) := by
    refine ⟨by omega, fun b hb _ hbL => ⟨hother b hb (fun e => hbL (e ▸ hBL)), fun i => by rw [hF', if_neg (by rintro ⟨rfl, _⟩; exact hbL hBL)]⟩, hmono, fun i b h => ?_, fun b hb => ?_,
      ⟨World.os_setCells w B lo news, setCells_tape B news lo w, World.output_setCells w B lo news⟩, fun b => by rw [hFr]; exact Nat.le_refl _⟩
    · rw [List.getElem?_append_left (List.getElem?_eq_some_iff.1 h).1]; exact h
    · rcases List.mem_append.1 hb with h | h
      · exact .inl h
      · simp at h; subst h; exact .inl hBL
  have old : ∀ (j' : Nat) ds B', (H.set j [] ++ [[.tk (lo + news.length)]])[j']? = some ds → ds ≠ [] → (L ++ [B])[j']? = some B' → (H[j']? = some ds ∧ L[j']? = some B' ∧ B' ≠ B) ∨ (j' = L.length ∧ ds = [.tk (lo + news.length)] ∧ B' = B) := by
    intro j' ds B' h1 h2 h3
    have hlen : (H.set j []).length = L.length := by simp [hS.len]
    rcases Nat.lt_or_ge j' L.length with hl | hl
    · rw [List.getElem?_append_left hl] at h3
      rw [List.getElem?_append_left (hlen ▸ hl)] at h1
      obtain ⟨k1, k2⟩ := set_live h1 h2
      exact .inl ⟨k2, h3, fun e => k1 (hS.inj j' j ds _ B k2 h2 hj hne (e ▸ h3) hB)⟩
    · rw [List.getElem?_append_right hl] at h3
      rw [List.getElem?_append_right (hlen ▸ hl), hlen] at h1
      have h0 : j' - L.length = 0 := by
        have := (List.getElem?_eq_some_iff.1 h3).1
        simp at this
        omega
      rw [h0] at h1 h3
      simp at h1 h3
      exact .inr ⟨by omega, h1.symm, h3.symm⟩
  refine ⟨F', hFr, hF', ⟨fun b i v h => ?_, by simp [hS.len], fun j' ds B' h1 h2 hmv h3 => ?_, fun b hb => ?_, fun j' ds B' h1 h2 h3 i hi => ?_, fun b hb => by simp [NX], fun i1 j1 c1 c2 B1 hi1 hn1' hj1 hn2 hb1 hb2 => ?_, fun b hb => (by simp [NX] at hb), fun b hb => by rw [hFr]; exact hS.room0 b (by omega), fun j' ks vs B' h1 h3 => ?_⟩, hgo⟩
  · rw [hF'] at h
    split at h
    · rename_i hh
      obtain ⟨rfl, h2, h3⟩ := hh
      have hlt : i - lo < news.length := by omega
      rw [List.getElem?_eq_getElem hlt] at h
      injection h with h
      subst h
      refine ⟨?_, hn1 _ (List.getElem_mem hlt)⟩
      rw [cell?_eq k1, k3, if_pos ⟨h2, h3⟩, List.getElem?_eq_getElem hlt]
    · rename_i hh
      obtain ⟨m1, m2⟩ := hS.mem _ _ _ h
      refine ⟨?_, m2⟩
      by_cases hb : b = B
      · subst hb
        rw [cell?_eq k1, k3, if_neg (fun h => hh ⟨rfl, h⟩), ← cell?_eq hw]; exact m1
      · rw [cell?_same (hother b (hS.ltF h) hb)]; exact m1
  · rcases old j' ds B' h1 h2 h3 with ⟨m1, m2, m3⟩ | ⟨m1, rfl, rfl⟩
    · obtain ⟨arr2, t', n1, n2, n3, n4⟩ := hS.obj j' ds B' m1 h2 hmv m2
      exact ⟨arr2, t', by rw [hother B' (hS.ltL (mem_of_get m2)) m3]; exact n1, n2, by rw [hFr]; exact n3, fun k c hk => (n4 k c hk).goes hgo⟩
    · obtain ⟨arr2, t', n1, n2, n3, n4⟩ := hS.obj j _ B' hj hne rfl hB
      refine ⟨arr', t, k1, ?_, by rw [hFr, k2]; exact hroom, fun k c hk => ?_⟩
      · rw [hw] at n1; injection n1 with n1; injection n1 with n1
        have : arr2 = arr := by simpa using n1.symm
        subst this
        simp at n2 ⊢; omega
      · have : c = .tk (lo + news.length) := by
          cases k with
          | zero => simpa using hk.symm
          | succ k => simp at hk
        subst this; exact .tk _ _
  · rw [hsize]
    rcases List.mem_append.1 hb with h | h
    · exact hS.lt b h
    · simp at h; subst h; exact hS.lt _ hBL
  · rcases old j' ds B' h1 h2 h3 with ⟨m1, m2, m3⟩ | ⟨m1, rfl, rfl⟩
    · rw [hF', if_neg (fun h => m3 h.1)]
      exact hS.nof j' ds B' m1 h2 m2 i hi
    · simp only [tkLo] at hi
      rw [hF', if_neg (fun h => by omega)]
      exact hS.nof j _ B' hj hne hB i (by simp only [tkLo]; omega)
  · rcases old i1 c1 B1 hi1 hn1' hb1 with ⟨k1, k2, k3⟩ | ⟨k1, k2, k3⟩ <;> rcases old j1 c2 B1 hj1 hn2 hb2 with ⟨m1, m2, m3⟩ | ⟨m1, m2, m3⟩
    · exact hS.inj i1 j1 c1 c2 B1 k1 hn1' m1 hn2 k2 m2
    · exact absurd m3 k3
    · exact absurd k3 m3
    · omega
  · rcases old j' _ B' h1 (by simp) h3 with ⟨k1, k2, k3⟩ | ⟨k1, k2, k3⟩
    · exact (hS.mob j' ks vs B' k1 k2).goes hgo (hother B' (hS.ltL (mem_of_get k2)) k3)
    · cases k2

theorem Rel.owRow {n : Nat} {xs : List AV} {j : Nat} {v : Value} (h : Rel F L (.ow xs j) v) (hn : ∀ a ∈ xs, a.cells.length = n) : ∃ B cap, v = .slice (some ⟨B, 0, none⟩) xs.length cap ∧ L[j]? = some B ∧ 0 < xs.length ∧ xs.length ≤ cap ∧ cap * n ≤ F.room B ∧ cap ≤ 9223372036854775807 := by
  cases h with
  | ow _ _ B len cap sz vals h hl h0 hc hs hnn hf hr hm hx =>
    have hsz : sz = n := by
      have h0' : 0 < xs.length := by omega
      have e1 := hnn 0 _ (List.getElem?_eq_getElem h0')
      have e2 := hn _ (List.getElem_mem h0')
      omega
    subst hsz
    exact ⟨B, cap, by rw [hl], h, by omega, by omega, hm, hx⟩

/-- Related values behind each other, as a slice with a mark. -/
theorem Rel.mkOw {n B j cap : Nat} {xs : List AV} {vs : List Value} (hr : Row F L n xs vs) (hn : 0 < n) (h0 : 0 < xs.length) (hc : xs.length ≤ cap) (hF : ∀ (j : Nat) u, vs[j]? = some u → F B j = some u) (hB : L[j]? = some B) (hm : cap * n ≤ F.room B) (hx : cap ≤ 9223372036854775807) :
    Rel F L (.ow xs j) (.slice (some ⟨B, 0, none⟩) xs.length cap) := by
  have := Rel.mk (B := B) (o := 0) hr hn hc (fun j u hu => by rw [Nat.zero_add]; exact hF j u hu)
  cases this with
  | sl0 a cap h => simp at h0
  | sl _ _ _ _ _ sz vals hl h0' hc' hs hnn hf hr' =>
    have hsz : sz = n := by
      have e1 := hnn 0 _ (List.getElem?_eq_getElem h0)
      have e2 := hr.each 0 _ (List.getElem?_eq_getElem h0)
      omega
    subst hsz
    exact .ow xs j B _ cap sz vals hB rfl h0 hc hs hnn (fun i k hi hk => by have := hf i k hi hk; rwa [Nat.zero_add] at this) hr' hm hx

theorem appendT_run (hS : St P F L NX w H) {t tx ty : TypeId} {xa xb : AV} {v y : Value} {r : AV} {H' : Heap} (hx : Rel F L xa v) (hy : Rel F L xb y) (h : appendT P H t tx xa (viewR P H tx xb) = some (r, H')) :
    ∃ u w' F' L', (Builtin.append_ #[t, tx] ty #[v, y]).run P w = .ok u w' ∧ Rel F' L' r u ∧ St P F' L' NX w' H' ∧ Goes (fun _ => False) F L w F' L' w' := by
  generalize hv : viewR P H tx xb = yb at h
  unfold appendT at h
  split at h
  case h_2 => cases h
  rename_i el el' ys ht htx
  split at h
  case h_2 => cases h
  rename_i n by_ z hn hby hz
  split at h
  case isFalse => cases h
  rename_i hc
  obtain ⟨hn0, hzl, hyn, hpos⟩ := hc
  obtain ⟨news, hsrc, hrow⟩ := view_src hS htx hy hn0 hv hyn
  obtain ⟨ie, hie, hien⟩ : ∃ ie, P.info? el = some ie ∧ ie.size = n := by
    unfold sizeT at hn
    obtain ⟨ie, h1, h2⟩ := Option.map_eq_some_iff.1 hn
    exact ⟨ie, h1, h2⟩
  have hieb : ie.bytes = by_ := by unfold bytesT at hby; simpa [hie] using hby
  obtain ⟨zv, zarr, z1, z2, z3, z4, z5⟩ := zeroA_run (P := P) (F := F) (L := L) (w := w) hz
  have hzz : ie.zero = some zv := by simpa [hie] using z5
  have hnl : news.length = ys.length * n := hsrc.newsLen
  -- a new row
  have grow : ∀ (base : Option Addr) (xs : List AV) (cap : Nat) (olds : List Value) (H0 : Heap), v = .slice base xs.length cap → Row F L n xs olds → (∀ u ∈ olds, u.oneCell' = true) →
      (∀ w', (Builtin.firstCells n xs.length (.slice base xs.length cap)).run P w' = .ok olds.toArray w' ∨ w' ≠ w.drew) → cap < xs.length + ys.length → (xs.length + ys.length) * (by_ + 1) ≤ 140737488355328 → St P F L NX w H0 →
      ∃ u w' F' L', (Builtin.append_ #[t, tx] ty #[v, y]).run P w = .ok u w' ∧ Rel F' L' (.ow (xs ++ ys) H0.length) u ∧ St P F' L' NX w' (H0 ++ [[.tk ((xs.length + ys.length) * n)]]) ∧ Goes (fun _ => False) F L w F' L' w' := by
    intro base xs cap olds H0 hv' hor hone hfirst hcap hle hS0
    subst hv'
    have hol := hor.len
    have hml : xs.length + ys.length ≤ 140737488355328 := Nat.le_trans (Nat.le_mul_of_pos_right _ (by omega)) hle
    have hbytes : (xs.length + ys.length) * ie.bytes ≤ 140737488355328 := by
      rw [hieb]
      rw [Nat.mul_add, Nat.mul_one] at hle
      omega
    have hold : (Builtin.firstCells ie.size xs.length (.slice base xs.length cap)).run P w.drew = .ok olds.toArray w.drew := by
      rw [hien]
      rcases hfirst w.drew with h | h
      · exact h
      · exact absurd rfl h
    have hr0 := run_append_grow_src w t tx ty el ie zv ht hie hzz base xs.length cap olds hold y ys.length news (by rw [hien]; exact hsrc) (by omega) (by omega) (growslice_fits (by omega) hbytes)
    obtain ⟨c', hc'⟩ : ∃ c', c' = grownCap w (xs.length + ys.length) cap el := ⟨_, rfl⟩
    have hge : xs.length + ys.length ≤ c' := hc' ▸ grownCap_ge w _ _ _
    rw [← hc'] at hr0
    obtain ⟨arr, harr⟩ : ∃ arr : List Value, arr = (olds ++ news) ++ (Builtin.zeroCells zv.cells (c' - (xs.length + ys.length))).toList := ⟨_, rfl⟩
    have harr' : (olds ++ news).toArray ++ Builtin.zeroCells zv.cells (c' - (xs.length + ys.length)) = arr.toArray := by
      rw [harr]
      apply Array.ext'
      simp
    rw [harr'] at hr0
    have hg : Grew w (w.drew.alloc (.cells arr.toArray el)) arr el (0, 0) :=
      ⟨by simp, fun B hB => Go.heap_alloc_old w.drew _ B hB, Go.heap_alloc_new w.drew _, rfl, rfl, rfl⟩
    have hzc : (Builtin.zeroCells zv.cells (c' - (xs.length + ys.length))).toList.length = (c' - (xs.length + ys.length)) * n := by
      rw [Array.length_toList, size_zeroCells, z2]
      simp [z3, hzl]
    have hon : (olds ++ news).length = (xs.length + ys.length) * n := by rw [List.length_append, hol, hnl, Nat.add_mul]
    have hal : arr.length = c' * n := by
      rw [harr, List.length_append, hon, hzc, ← Nat.add_mul]
      congr 1; omega
    have hones : ∀ u ∈ olds ++ news, u.oneCell' = true := by
      intro u hu
      rcases List.mem_append.1 hu with h | h
      · exact hone u h
      · exact hsrc.one u h
    obtain ⟨hS1, hgo1⟩ := hS0.row hg (olds ++ news) (fun i u hu => ⟨by rw [harr, List.getElem?_append_left (List.getElem?_eq_some_iff.1 hu).1]; exact hu, hones u (List.mem_of_getElem? hu)⟩)
    have hpos2 : 0 < (xs.length + ys.length) * n := Nat.mul_pos (by omega) hn0
    have hge2 : (xs.length + ys.length) * n ≤ c' * n := Nat.mul_le_mul_right n hge
    obtain ⟨F', f1, f2, hS2, hgo2⟩ := hS1.addTk (lo := (xs.length + ys.length) * n) (r := c' * n) hg.new (fun hm => absurd (hS.lt _ hm) (by omega)) (by omega) (hS.room0 _ (Nat.le_refl _)) (by omega) (fun i hi => by
      rw [addF_get, if_pos rfl, List.getElem?_eq_none (by omega)]) hgo1 (Nat.le_refl _)
    refine ⟨_, _, F', _, hr0, ?_, hS2, hgo2⟩
    have hrow2 : Row F' (L ++ [w.heap.size]) n (xs ++ ys) (olds ++ news) := (hor.append hrow).goes hgo2
    have := Rel.mkOw (B := w.heap.size) (j := H0.length) (cap := c') hrow2 hn0 (by rw [List.length_append]; omega) (by rw [List.length_append]; exact hge) (fun i u hu => by
      show F'.get w.heap.size i = some u
      rw [f1]
      show addF F w.heap.size (olds ++ news) w.heap.size i = some u
      rw [addF_get, if_pos rfl]; exact hu) (by rw [List.getElem?_append_right (by rw [hS0.len]; exact Nat.le_refl _), hS0.len, Nat.sub_self]; rfl) (by rw [f2]; exact Nat.le_refl _) (by rw [hc']; exact grownCap_le_maxLen w _ _ _ (by unfold maxLen; omega))
    rw [List.length_append] at this
    exact this
  split at h
  · -- behind nothing
    split at h
    · rename_i hle
      obtain ⟨hnv, hle⟩ := hle
      have hnx := isNilV_spec hnv
      subst hnx
      injection h with h; injection h with h1 h2; subst h1 h2
      have hvn : v = .slice none 0 0 := nil_val hx
      have := grow none [] 0 [] H hvn (Row.nil n) (by simp) (fun w' => .inl (run_firstCells_none w' n 0 0 0)) (by simpa using hpos) (by simpa using hle) hS
      simpa using this
    · cases h
  · rename_i xs j
    split at h
    · rename_i hcond
      obtain ⟨htk, hle, hxn, hx0⟩ := hcond
      injection h with h; injection h with h1 h2; subst h1 h2
      obtain ⟨cs, hj, hcs⟩ := Option.bind_eq_some_iff.1 htk
      have := tkRow_spec hcs
      subst this
      obtain ⟨B, cap, hv', hB, _, hcap, hroom, hx9⟩ := hx.owRow hxn
      obtain ⟨ad, cap2, olds, hv2, hc2, hnone, hor, hone, hFo⟩ := hx.owA.row hS hxn
      rw [hv'] at hv2
      injection hv2 with e1 e2 e3
      subst e1 e3
      obtain ⟨arr, ta, m1, m2, m3, m4⟩ := hS.obj j _ B hj (by simp) rfl hB
      have hol := hor.len
      have holds : ∀ (i : Nat) u, olds[i]? = some u → F B i = some u := by
        intro i u hu
        obtain ⟨B', o', he, hf⟩ := hFo (by intro hv; rw [hv] at hu; simp at hu)
        injection he with he; injection he with he1 he2
        subst he1 he2
        have := hf i u hu
        rwa [Nat.zero_add] at this
      by_cases hrm : xs.length + ys.length ≤ cap
      · have hcn : (xs.length + ys.length) * n ≤ cap * n := Nat.mul_le_mul_right n hrm
        have hfit : xs.length * n + news.length ≤ arr.length := by
          rw [hnl, ← Nat.add_mul]; omega
        have hcell : ∀ i, i < news.length → (w.cell? ⟨B, 0 + xs.length * n + i, none⟩).isSome = true := by
          intro i hi
          rw [cell?_eq m1, List.getElem?_eq_getElem (by omega)]; rfl
        subst hv'
        have hr0 := run_append_room_src w t tx ty el ie ht hie B 0 xs.length cap y ys.length news (by rw [hien]; exact hsrc) hrm
          (fun i hi => by rw [hien]; exact hcell i hi) (fun i hi => by rw [hien]; unfold World.frozen?; rw [m1]; simp)
        rw [hien, Nat.zero_add] at hr0
        obtain ⟨F', f1, f2, hS', hgo⟩ := hS.tkIn hj hB hsrc.one m1 hfit m3
        rw [hnl, ← Nat.add_mul] at hS'
        refine ⟨_, _, F', L ++ [B], hr0, ?_, hS', hgo⟩
        have hrow2 : Row F' (L ++ [B]) n (xs ++ ys) (olds ++ news) := (hor.append hrow).goes hgo
        have := Rel.mkOw (B := B) (j := H.length) (cap := cap) hrow2 hn0 (by rw [List.length_append]; omega) (by rw [List.length_append]; exact hrm) (fun i u hu => by
          rcases Nat.lt_or_ge i olds.length with hl | hl
          · rw [List.getElem?_append_left hl] at hu
            exact hgo.mono _ _ _ (holds i u hu)
          · rw [List.getElem?_append_right hl] at hu
            have hil := (List.getElem?_eq_some_iff.1 hu).1
            rw [f2, if_pos ⟨rfl, by omega, by omega⟩, ← hu, hol]) (by rw [List.getElem?_append_right (by rw [hS.len]; exact Nat.le_refl _), hS.len, Nat.sub_self]; rfl) (by rw [f1]; exact hroom) hx9
        rw [List.length_append] at this
        exact this
      · have := grow (some ⟨B, 0, none⟩) xs cap olds (H.set j []) hv' hor hone (fun w' => by
            by_cases hw : w' = w.drew
            · refine .inl ?_
              subst hw
              exact run_firstCells_some w.drew n xs.length ⟨B, 0, none⟩ xs.length cap olds hol (fun i u hu => by
                rw [add_at, Nat.zero_add]
                exact (hS.mem _ _ _ (holds i u hu)).1)
            · exact .inr hw) (by omega) hle (hS.dead j)
        rw [List.length_set] at this
        exact this
    · cases h
  · cases h

theorem tkA_run (hS : St P F L NX w H) {o : Oper} {ρ : Operand → Value} (hT : ∀ x, Rel F L (ev e x) (ρ x)) (hc : ∀ v, ρ (.const v) = v) {r : AV} {H' : Heap} (h : tkA P e H o.op = some (r, H')) :
    ∃ u w' F' L', (execOp ρ o).run P w = .ok (.value u) w' ∧ Rel F' L' r u ∧ St P F' L' NX w' H' ∧ Goes (fun _ => False) F L w F' L' w' := by
  obtain ⟨dst, op, type, pos, after, guard⟩ := o
  simp only at h ⊢
  unfold tkA at h
  split at h
  · split at h
    · rename_i hnv
      have hnx := isNilV_spec hnv
      subst hnx
      injection h with h; injection h with h1 h2; subst h1 h2
      exact ⟨.slice none 0 0, w, F, L, by simp [execOp, hc], .sc _ rfl, hS, Goes.refl _ F L w⟩
    · cases h
  · rename_i args ts
    split at h
    · rename_i x y t u hargs hts
      have e1 : args = #[x, y] := by obtain ⟨l⟩ := args; simp at hargs; subst hargs; rfl
      have e2 : ts = #[t, u] := by obtain ⟨l⟩ := ts; simp at hts; subst hts; rfl
      subst e1 e2
      obtain ⟨v, w', F', L', h1, h2, h3, h4⟩ := appendT_run (ty := type) hS (hT x) (hT y) h
      refine ⟨v, w', F', L', ?_, h2, h3, h4⟩
      unfold execOp
      simp only [resolve, invoke, builtin, Sem.run_bind, Sem.run_pure, Result.andThen_ok, List.map_toArray, List.map_cons, List.map_nil, h1]
    · cases h
  · cases h

/-- Both kinds. -/
theorem special_ok (hI : Inv P G F0 L0 w0 N O e H F L a w) (hA : AliasOK A a) {o : Oper} {r : AV} {H' : Heap} (h : (if C.isTk o.dst = true then tkA P e H o.op else muA P e H o.op) = some (r, H')) (hd : ∀ d', o.dst = some d' → d' < N)
    {next : Act → World → Prop} {Q : Exit → Act → World → Prop}
    (hn : ∀ F' L' u w', Inv P G F0 L0 w0 N (killO o.dst O) (put e o.dst r) H' F' L' (a.put o.dst u) w' → AliasOK (killA o.dst A) (a.put o.dst u) → next (a.put o.dst u) w') : o.wp P a w next Q := by
  split at h
  · obtain ⟨u, w', F', L', h1, h2, h3, h4⟩ := tkA_run (o := o) (ρ := a.eval) hI.st hI.ev (fun v => rfl) h
    unfold Oper.wp
    rw [h1]
    have := hI.step (O1 := O) (new := []) (u := u) (r := r) hd h3 h4 h2 (fun B hB hg => hg.elim) (fun p hp => hp) (fun p hp B hB hg => hg) (by simp) (by simp) (by simp)
    exact hn F' L' u w' (by simpa using this) (hA.kill (fun d' he => Nat.lt_of_lt_of_le (hd d' he) hI.size) u)
  · exact mu_ok hI hA h hd hn
end
end Go.Lv
