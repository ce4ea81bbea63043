import Derived.Test.YticlhjamafdmfaaLvG
import Derived.MapKept
set_option linter.unusedVariables false
set_option linter.unusedSimpArgs false
/-! Maps. -/
namespace Go.Lv
section
variable {P : Program} {F : Facts} {L : List Nat} {w : World} {H : Heap} {X : Nat → Prop}

theorem isKey_of {t : TypeId} {k : AV} {kv : Value} (h : keyKind P t k = true) (hr : Rel F L k kv) : ∃ d, P.underlying t = some d ∧ MapKept.IsKey d kv ∧ k = .v kv := by
  unfold keyKind at h
  split at h
  · rename_i s hu
    obtain ⟨rfl, _⟩ := hr.v_eq
    exact ⟨_, hu, trivial, rfl⟩
  · rename_i ik k' n hu
    obtain ⟨rfl, _⟩ := hr.v_eq
    exact ⟨_, hu, (show k' = ik by simpa using h), rfl⟩
  · cases h

theorem bytes_beq' (x y : ByteArray) : (x == y) = true ↔ x = y := by
  constructor
  · intro h
    have e : x.data = y.data := by
      have : (x.data == y.data) = true := h
      simpa using this
    cases x; cases y; simpa using e
  · intro h; subst h
    show (x.data == x.data) = true
    simp
theorem sameNow_of {d : TypeDesc} {k k' : AV} {kv kv' : Value} {b : Bool} (hk : MapKept.IsKey d kv) (hkv : k = .v kv) (hr' : Rel F L k' kv') (h : keyEq k k' = some b) : Instr.sameNow d kv kv' = some b ∧ (b = true → kv = kv') := by
  subst hkv
  unfold keyEq at h
  split at h
  · rename_i a c hh
    injection hh with hh; subst hh
    obtain ⟨rfl, _⟩ := hr'.v_eq
    injection h with h
    cases d <;> simp [MapKept.IsKey] at hk
    refine ⟨by simp [Instr.sameNow, h], fun hb => ?_⟩
    rw [hb] at h
    exact congrArg Value.string ((bytes_beq' a c).1 h)
  · rename_i k1 a k2 c hh
    injection hh with hh; subst hh
    obtain ⟨rfl, _⟩ := hr'.v_eq
    split at h
    · rename_i he
      injection h with h
      subst he
      cases d <;> simp [MapKept.IsKey] at hk
      refine ⟨by simp [Instr.sameNow, h], fun hb => ?_⟩
      rw [hb] at h
      congr 1
      simpa using h
    · cases h
  · cases h

theorem keyEq_some {d : TypeDesc} {k : AV} {kv : Value} (hk : MapKept.IsKey d kv) (hkv : k = .v kv) {ks : List AV} {fs : List MapEntry} (hl : ks.length = fs.length) (hr : ∀ (j : Nat) k', ks[j]? = some k' → ∃ e, fs[j]? = some e ∧ Rel F L k' e.key)
    (h : ks.all (fun k'' => (keyEq k k'').isSome) = true) : ∀ e ∈ fs, ∃ b, Instr.sameNow d kv e.key = some b ∧ (b = true → kv = e.key) := by
  intro e he
  obtain ⟨j, hj⟩ := List.mem_iff_getElem?.1 he
  have hjl := (List.getElem?_eq_some_iff.1 hj).1
  have hkj : ks[j]? = some ks[j] := List.getElem?_eq_getElem (by omega)
  obtain ⟨e', he', hre⟩ := hr j _ hkj
  rw [hj] at he'; injection he' with he'; subst he'
  have := List.all_eq_true.1 h _ (List.mem_of_getElem? hkj)
  obtain ⟨b, hb⟩ := Option.isSome_iff_exists.1 this
  exact ⟨b, sameNow_of hk hkv hre hb⟩
/-- What a search finds, in whatever order the entries are. -/
theorem findK_run {d : TypeDesc} {k : AV} {kv : Value} (hk : MapKept.IsKey d kv) (hkv : k = .v kv) : ∀ (ks : List AV) (fs : List MapEntry) (i : Nat) (r : Option Nat), ks.length = fs.length →
    (∀ (j : Nat) k', ks[j]? = some k' → ∃ e, fs[j]? = some e ∧ Rel F L k' e.key) → findK k ks i = some r →
    (∀ e ∈ fs, ∃ b, Instr.sameNow d kv e.key = some b ∧ (b = true → kv = e.key)) ∧
    ((r = none ∧ ∀ e ∈ fs, Instr.sameNow d kv e.key = some false) ∨ ∃ idx e, r = some (i + idx) ∧ fs[idx]? = some e ∧ e.key = kv) := by
  intro ks
  induction ks with
  | nil =>
    intro fs i r hl hr h
    injection h with h; subst h
    have : fs = [] := List.eq_nil_of_length_eq_zero (by simpa using hl.symm)
    subst this
    exact ⟨by simp, .inl ⟨rfl, by simp⟩⟩
  | cons k' ks ih =>
    intro fs i r hl hr h
    cases fs with
    | nil => simp at hl
    | cons e fs =>
      obtain ⟨e', he', hre⟩ := hr 0 k' rfl
      injection he' with he'; subst he'
      unfold findK at h
      cases hq : keyEq k k' with
      | none => rw [hq] at h; cases h
      | some b =>
        rw [hq] at h
        obtain ⟨s1, s2⟩ := sameNow_of hk hkv hre hq
        cases b with
        | true =>
          simp only at h
          split at h
          · rename_i hall
            injection h with h; subst h
            have := keyEq_some (ks := ks) (fs := fs) hk hkv (by simpa using hl) (fun j k'' hj => hr (j + 1) k'' hj) hall
            refine ⟨fun x hx => ?_, .inr ⟨0, e, rfl, rfl, (s2 rfl).symm⟩⟩
            rcases List.mem_cons.1 hx with rfl | hx
            · exact ⟨true, s1, s2⟩
            · exact this x hx
          · cases h
        | false =>
          obtain ⟨h0, h1⟩ := ih fs (i + 1) r (by simpa using hl) (fun j k'' hj => hr (j + 1) k'' hj) h
          refine ⟨fun x hx => ?_, ?_⟩
          · rcases List.mem_cons.1 hx with rfl | hx
            · exact ⟨false, s1, s2⟩
            · exact h0 x hx
          · rcases h1 with ⟨h1, h2⟩ | ⟨idx, e2, h1, h2, h3⟩
            · refine .inl ⟨h1, fun x hx => ?_⟩
              rcases List.mem_cons.1 hx with rfl | hx
              · exact s1
              · exact h2 x hx
            · exact .inr ⟨idx + 1, e2, by rw [h1]; congr 1; omega, by simpa using h2, h3⟩
theorem sameNow_self {d : TypeDesc} {kv : Value} (hk : MapKept.IsKey d kv) : Instr.sameNow d kv kv = some true := by
  cases kv <;> first | (cases d <;> exact hk.elim) | skip
  all_goals (cases d <;> first | exact hk.elim | skip)
  all_goals simp [MapKept.IsKey] at hk
  all_goals simp [Instr.sameNow]
  exact (bytes_beq' _ _).2 rfl
theorem findNow_none {d : TypeDesc} {kv : Value} : ∀ (es : List MapEntry) (i : Nat), (∀ e ∈ es, Instr.sameNow d kv e.key = some false) → Instr.findNow d kv es i = some none := by
  intro es
  induction es with
  | nil => intro i _; rfl
  | cons e es ih =>
    intro i h
    simp only [Instr.findNow, h e (by simp)]
    exact ih _ (fun x hx => h x (by simp [hx]))
theorem findNow_some {d : TypeDesc} {kv : Value} (hk : MapKept.IsKey d kv) : ∀ (es : List MapEntry) (i : Nat) (e : MapEntry), e ∈ es → e.key = kv → (∀ x ∈ es, ∃ b, Instr.sameNow d kv x.key = some b ∧ (b = true → kv = x.key)) → (es.map (·.key)).Nodup →
    ∃ idx, es[idx]? = some e ∧ Instr.findNow d kv es i = some (some (i + idx, e.val)) := by
  intro es
  induction es with
  | nil => intro i e he; simp at he
  | cons x es ih =>
    intro i e he hek h hnd
    obtain ⟨b, hb1, hb2⟩ := h x (by simp)
    rw [List.map_cons, List.nodup_cons] at hnd
    cases b with
    | true =>
      have hx := hb2 rfl
      rcases List.mem_cons.1 he with rfl | he
      · exact ⟨0, rfl, by simp [Instr.findNow, hb1]⟩
      · exact absurd (List.mem_map.2 ⟨e, he, by rw [hek, hx]⟩) hnd.1
    | false =>
      rcases List.mem_cons.1 he with rfl | he
      · rw [hek, sameNow_self hk] at hb1; cases hb1
      · obtain ⟨idx, h1, h2⟩ := ih (i + 1) e he hek (fun y hy => h y (by simp [hy])) hnd.2
        exact ⟨idx + 1, by simpa using h1, by simp [Instr.findNow, hb1, h2]; omega⟩
/-- Both together. -/
theorem find_both {d : TypeDesc} {k : AV} {kv : Value} (hk : MapKept.IsKey d kv) (hkv : k = .v kv) {ks : List AV} {es fs : List MapEntry} {r : Option Nat} (hpm : fs.Perm es) (hnd : (es.map (·.key)).Nodup) (hl : ks.length = fs.length)
    (hr : ∀ (j : Nat) k', ks[j]? = some k' → ∃ e, fs[j]? = some e ∧ Rel F L k' e.key) (h : findK k ks 0 = some r) :
    (r = none ∧ Instr.findNow d kv es 0 = some none ∧ ∀ e ∈ es, e.key ≠ kv) ∨ ∃ idx idx' e, r = some idx ∧ fs[idx]? = some e ∧ es[idx']? = some e ∧ e.key = kv ∧ Instr.findNow d kv es 0 = some (some (idx', e.val)) := by
  obtain ⟨h0, h1⟩ := findK_run hk hkv ks fs 0 r hl hr h
  rcases h1 with ⟨h1, h2⟩ | ⟨idx, e, h1, h2, h3⟩
  · have h2' : ∀ e ∈ es, Instr.sameNow d kv e.key = some false := fun e he => h2 e (hpm.mem_iff.2 he)
    refine .inl ⟨h1, findNow_none es 0 h2', fun e he hek => ?_⟩
    have := h2' e he
    rw [hek, sameNow_self hk] at this
    cases this
  · obtain ⟨idx', k1, k2⟩ := findNow_some hk es 0 e (hpm.mem_iff.1 (List.mem_of_getElem? h2)) h3 (fun x hx => h0 x (hpm.mem_iff.2 hx)) hnd
    rw [Nat.zero_add] at k2 h1
    exact .inr ⟨idx, idx', e, h1, h2, k1, h3, k2⟩
theorem cons_erase {α : Type} : ∀ (l : List α) (i : Nat) (x : α), l[i]? = some x → (x :: l.eraseIdx i).Perm l := by
  intro l
  induction l with
  | nil => intro i x h; simp at h
  | cons y l ih =>
    intro i x h
    cases i with
    | zero => injection h with h; subst h; exact List.Perm.refl _
    | succ i => exact (List.Perm.swap y x _).trans ((ih i x (by simpa using h)).cons y)
theorem set_erase {α : Type} : ∀ (l : List α) (i : Nat) (x : α), i < l.length → (l.set i x).Perm (x :: l.eraseIdx i) := by
  intro l
  induction l with
  | nil => intro i x h; simp at h
  | cons y l ih =>
    intro i x h
    cases i with
    | zero => exact List.Perm.refl _
    | succ i => exact ((ih i x (by simpa using h)).cons y).trans (List.Perm.swap x y _)
theorem perm_erase {α : Type} {fs es : List α} {i j : Nat} {e : α} (h : fs.Perm es) (hi : fs[i]? = some e) (hj : es[j]? = some e) : (fs.eraseIdx i).Perm (es.eraseIdx j) :=
  (List.perm_cons e).1 (((cons_erase fs i e hi).trans h).trans (cons_erase es j e hj).symm)
theorem perm_set {α : Type} {fs es : List α} {i j : Nat} {e x : α} (h : fs.Perm es) (hi : fs[i]? = some e) (hj : es[j]? = some e) : (fs.set i x).Perm (es.set j x) :=
  ((set_erase fs i x (List.getElem?_eq_some_iff.1 hi).1).trans ((perm_erase h hi hj).cons x)).trans (set_erase es j x (List.getElem?_eq_some_iff.1 hj).1).symm

theorem List.set_getElem?_self' {α : Type} {l : List α} {j : Nat} {x : α} (h : l[j]? = some x) : l.set j x = l := by
  apply List.ext_getElem?
  intro i
  rw [List.getElem?_set]
  split
  · rename_i hi; subst hi; rw [if_pos (List.getElem?_eq_some_iff.1 h).1, h]
  · rfl
theorem mapTy_some {t kt et : TypeId} (h : mapTy P t = some (kt, et)) : P.underlying t = some (.map kt et) := by
  unfold mapTy at h
  split at h
  · injection h with h; injection h with h1 h2; subst h1 h2; assumption
  · cases h
theorem mapOf_some {j : Nat} {ks vs : List AV} (h : mapOf H j = some (ks, vs)) : H[j]? = some [.mv ks vs] := by
  unfold mapOf at h
  split at h
  · injection h with h; injection h with h1 h2; subst h1 h2; assumption
  · cases h
theorem zeroV_run {t : TypeId} {z : AV} (h : zeroV P t = some z) : ∃ v, (zeroValue t).run P w = .ok v w ∧ Rel F L z v := by
  unfold zeroV at h
  obtain ⟨v, hv, rfl⟩ := Option.map_eq_some_iff.1 h
  obtain ⟨i, hi, hz⟩ := Option.bind_eq_some_iff.1 hv
  refine ⟨v, ?_, lit_rel F L v⟩
  simp [zeroValue, typeInfo, hi, hz, Result.andThen]

theorem lookupA_run (hS : St P F L X w H) {t : TypeId} {m k r : AV} {mv kv : Value} {c : Bool} (hm : Rel F L m mv) (hk : Rel F L k kv) (h : lookupA P H t m k c = some r) :
    ∃ u, (Instr.lookup t mv kv c).run P w = .ok u w ∧ Rel F L r u := by
  unfold lookupA at h
  obtain ⟨⟨kt, et⟩, hty, h⟩ := Option.bind_eq_some_iff.1 h
  have hu := mapTy_some hty
  simp only at h
  split at h
  case isFalse => cases h
  rename_i hkk
  obtain ⟨d, hd, hkey, hkv⟩ := isKey_of hkk hk
  have tup2 : ∀ {F L} {a : AV} {v : Value} (b : Bool), Rel F L a v → Rel F L (.tup [a, .b b]) (.tuple #[v, .bool b]) := by
    intro F L a v b hr
    refine .tup [a, .b b] [v, .bool b] rfl fun k' c' hk' => ?_
    match k', hk' with
    | 0, hk' => injection hk' with hk'; subst hk'; exact hr
    | 1, hk' => injection hk' with hk'; subst hk'; exact .sc _ rfl
  split at h
  · -- no map
    obtain ⟨z, hz, h⟩ := Option.map_eq_some_iff.1 h
    obtain ⟨hmv, _⟩ := hm.v_eq
    subst hmv
    obtain ⟨zv, hz1, hz2⟩ := zeroV_run (P := P) (F := F) (L := L) (w := w) hz
    have hf : (Instr.findKey kt kv ([] : List MapEntry)).run P w = .ok none w := MapKept.run_findKey hd rfl
    cases c with
    | true =>
      rw [if_pos rfl] at h; subst h
      exact ⟨.tuple #[zv, .bool false], by simp [Instr.lookup, run_underlying hu, MapKept.run_checkKey hd hkey, hf, hz1, Result.andThen], tup2 false hz2⟩
    | false =>
      rw [if_neg (by simp)] at h; subst h
      exact ⟨zv, by simp [Instr.lookup, run_underlying hu, MapKept.run_checkKey hd hkey, hf, hz1, Result.andThen], hz2⟩
  · rename_i j hh
    cases hm with
    | mp _ B hB =>
      obtain ⟨⟨ks, vs⟩, hmo, h⟩ := Option.bind_eq_some_iff.1 h
      simp only at h
      obtain ⟨r0, hfk, h⟩ := Option.bind_eq_some_iff.1 h
      obtain ⟨es, fs, clk, h1, hst, hpm, h2, h3, h4, h5⟩ := hS.mob j ks vs B (mapOf_some hmo) hB
      have hgo := MapKept.run_getObj_map (P := P) h1
      rcases find_both hkey hkv hpm hst.2.2 h2 h4 hfk with ⟨rfl, hn, _⟩ | ⟨idx, idx', e, rfl, he, he2, hek, hn⟩
      · obtain ⟨z, hz, h⟩ := Option.map_eq_some_iff.1 h
        obtain ⟨zv, hz1, hz2⟩ := zeroV_run (P := P) (F := F) (L := L) (w := w) hz
        have hf : (Instr.findKey kt kv es).run P w = .ok none w := MapKept.run_findKey hd hn
        cases c with
        | true =>
          rw [if_pos rfl] at h; subst h
          exact ⟨.tuple #[zv, .bool false], by simp [Instr.lookup, run_underlying hu, hgo, MapKept.run_checkKey hd hkey, hf, hz1, Result.andThen], tup2 false hz2⟩
        | false =>
          rw [if_neg (by simp)] at h; subst h
          exact ⟨zv, by simp [Instr.lookup, run_underlying hu, hgo, MapKept.run_checkKey hd hkey, hf, hz1, Result.andThen], hz2⟩
      · obtain ⟨v, hv, h⟩ := Option.map_eq_some_iff.1 h
        obtain ⟨e', he', hre⟩ := h5 idx v hv
        rw [he] at he'; injection he' with he'; subst he'
        have hf : (Instr.findKey kt kv es).run P w = .ok (some (idx', e.val)) w := MapKept.run_findKey hd hn
        cases c with
        | true =>
          rw [if_pos rfl] at h; subst h
          exact ⟨.tuple #[e.val, .bool true], by simp [Instr.lookup, run_underlying hu, hgo, MapKept.run_checkKey hd hkey, hf, Result.andThen], tup2 true hre⟩
        | false =>
          rw [if_neg (by simp)] at h; subst h
          exact ⟨e.val, by simp [Instr.lookup, run_underlying hu, hgo, MapKept.run_checkKey hd hkey, hf, Result.andThen], hre⟩
  · cases h

/-- A new map. -/
theorem St.mapNew (hS : St P F L X w H) : St P F (L ++ [w.heap.size]) X (w.alloc (.map #[] 0)) (H ++ [[.mv [] []]]) ∧ Goes (fun _ => False) F L w F (L ++ [w.heap.size]) (w.alloc (.map #[] 0)) := by
  have hsize : (w.alloc (.map #[] 0)).heap.size = w.heap.size + 1 := by simp
  have hold : ∀ B, B < w.heap.size → (w.alloc (.map #[] 0)).heap[B]? = w.heap[B]? := fun B hB => Go.heap_alloc_old w _ B hB
  have hnew : (w.alloc (.map #[] 0)).heap[w.heap.size]? = some (.map #[] 0) := Go.heap_alloc_new w _
  have hpre : ∀ (j B : Nat), L[j]? = some B → (L ++ [w.heap.size])[j]? = some B := by
    intro j B h
    rw [List.getElem?_append_left (List.getElem?_eq_some_iff.1 h).1]
    exact h
  have hgo : Goes (fun _ => False) F L w F (L ++ [w.heap.size]) (w.alloc (.map #[] 0)) :=
    ⟨by omega, fun B hB _ _ => ⟨hold B hB, fun i => rfl⟩, fun _ _ _ h => h, hpre, fun B h => by
      rcases List.mem_append.1 h with h | h
      · exact .inl h
      · simp at h; exact .inr (by omega), ⟨rfl, rfl, rfl⟩, fun _ => Nat.le_refl _⟩
  have old : ∀ (j : Nat) cs' B, (H ++ [[.mv [] []]])[j]? = some cs' → (L ++ [w.heap.size])[j]? = some B → (H[j]? = some cs' ∧ L[j]? = some B) ∨ (j = L.length ∧ cs' = [.mv [] []] ∧ B = w.heap.size) := by
    intro j cs' B hj hB
    rcases Nat.lt_or_ge j L.length with hjl | hjl
    · rw [List.getElem?_append_left hjl] at hB
      rw [List.getElem?_append_left (hS.len ▸ hjl)] at hj
      exact .inl ⟨hj, hB⟩
    · rw [List.getElem?_append_right hjl] at hB
      rw [List.getElem?_append_right (hS.len ▸ hjl)] at hj
      have h0 : j - L.length = 0 := by
        have := (List.getElem?_eq_some_iff.1 hB).1
        simp at this
        omega
      rw [h0] at hB
      rw [← hS.len, h0] at hj
      simp at hB hj
      exact .inr ⟨by omega, hj.symm, hB.symm⟩
  refine ⟨⟨fun B i v h => ?_, by simp [hS.len], fun j cs' B hj hne hmv hB => ?_, fun B hB => ?_, fun j cs' B hj hne hB i hi => ?_, fun B hB => ?_, fun i j cs1 cs2 B hi hn1 hj hn2 hBi hBj => ?_, fun B hB => ?_, fun B hB => hS.room0 B (by omega), fun j ks vs B hj hB => ?_⟩, hgo⟩
  · obtain ⟨h1, h2⟩ := hS.mem _ _ _ h
    exact ⟨by rw [cell?_same (hold B (hS.ltF h))]; exact h1, h2⟩
  · rcases old j cs' B hj hB with ⟨h1, h2⟩ | ⟨h1, rfl, rfl⟩
    · obtain ⟨arr', t', h3, h4, h5, h6⟩ := hS.obj j cs' B h1 hne hmv h2
      have hlt := hS.ltL (mem_of_get h2)
      exact ⟨arr', t', by rw [hold B hlt]; exact h3, h4, h5, fun k c hk => (h6 k c hk).goes hgo⟩
    · cases hmv
  · rcases List.mem_append.1 hB with h | h
    · have := hS.lt B h; omega
    · simp at h; omega
  · rcases old j cs' B hj hB with ⟨h1, h2⟩ | ⟨h1, rfl, rfl⟩
    · exact hS.nof j cs' B h1 hne h2 i hi
    · cases hf : F w.heap.size i with
      | none => rfl
      | some v => have := hS.ltF hf; omega
  · rcases List.mem_append.1 hB with h | h
    · exact hS.nox B h
    · simp at h
      subst h
      intro hx
      have := hS.xlt _ hx
      omega
  · rcases old i cs1 B hi hBi with ⟨h1, h2⟩ | ⟨h1, h1', h1''⟩ <;> rcases old j cs2 B hj hBj with ⟨h3, h4⟩ | ⟨h3, h3', h3''⟩
    · exact hS.inj i j cs1 cs2 B h1 hn1 h3 hn2 h2 h4
    · subst h3''; have := hS.ltL (mem_of_get h2); omega
    · subst h1''; have := hS.ltL (mem_of_get h4); omega
    · omega
  · have := hS.xlt B hB
    omega
  · rcases old j _ B hj hB with ⟨h1, h2⟩ | ⟨h1, h2, rfl⟩
    · exact (hS.mob j ks vs B h1 h2).goes hgo (hold B (hS.ltL (mem_of_get h2)))
    · injection h2 with h2 _; injection h2 with h2 h3; subst h2 h3
      exact ⟨[], [], 0, hnew, MapKept.stamped_empty 0, List.Perm.refl _, rfl, rfl, by simp, by simp⟩

/-- A map that was written. -/
theorem St.mapSet (hS : St P F L X w H) {j B : Nat} {ks vs ks' vs' : List AV} {es es' fs' : List MapEntry} {clk clk' : Nat} (hj : H[j]? = some [.mv ks vs]) (hB : L[j]? = some B) (hw : w.heap[B]? = some (.map es.toArray clk)) (hst' : MapKept.Stamped es'.toArray clk') (hpm' : fs'.Perm es')
    (hk : ks'.length = fs'.length) (hv : vs'.length = fs'.length) (h4 : ∀ (i : Nat) k, ks'[i]? = some k → ∃ e, fs'[i]? = some e ∧ Rel F L k e.key) (h5 : ∀ (i : Nat) v, vs'[i]? = some v → ∃ e, fs'[i]? = some e ∧ Rel F L v e.val) :
    St P F L X { w with heap := w.heap.setIfInBounds B (.map es'.toArray clk') } (H.set j [.mv ks' vs']) ∧ Goes (fun _ => False) F L w F L { w with heap := w.heap.setIfInBounds B (.map es'.toArray clk') } := by
  obtain ⟨hset, hother⟩ := MapKept.heap_set (o' := .map es'.toArray clk') hw
  have hBL := mem_of_get hB
  have hgo : Goes (fun _ => False) F L w F L { w with heap := w.heap.setIfInBounds B (.map es'.toArray clk') } :=
    ⟨by simp, fun b hb _ hbL => ⟨hother b (fun e => hbL (e ▸ hBL)), fun i => rfl⟩, fun _ _ _ h => h, fun _ _ h => h, fun _ h => .inl h, ⟨rfl, rfl, rfl⟩, fun _ => Nat.le_refl _⟩
  have old : ∀ (j' : Nat) cs', (H.set j [.mv ks' vs'])[j']? = some cs' → (j' ≠ j ∧ H[j']? = some cs') ∨ (j' = j ∧ cs' = [.mv ks' vs']) := by
    intro j' cs' h1
    by_cases hjj : j' = j
    · subst hjj
      have hjl : j' < H.length := (List.getElem?_eq_some_iff.1 hj).1
      rw [List.getElem?_set_self hjl] at h1
      injection h1 with h1
      exact .inr ⟨rfl, h1.symm⟩
    · rw [List.getElem?_set_ne (fun e => hjj e.symm)] at h1
      exact .inl ⟨hjj, h1⟩
  refine ⟨⟨fun b i v h => ?_, by simp [hS.len], fun j' cs' B' hj' hne hmv hB' => ?_, fun b hb => by simpa using hS.lt b hb, fun j' cs' B' hj' hne hB' i hi => ?_, hS.nox, fun i1 j1 c1 c2 B1 hi1 hn1 hj1 hn2 hb1 hb2 => ?_, fun b hb => by simpa using hS.xlt b hb, fun b hb => hS.room0 b (by simpa using hb), fun j' ks2 vs2 B' hj' hB' => ?_⟩, hgo⟩
  · obtain ⟨h1, h2⟩ := hS.mem _ _ _ h
    refine ⟨?_, h2⟩
    by_cases hb : b = B
    · subst hb
      exfalso
      unfold World.cell? at h1
      simp only at h1
      rw [hw] at h1
      cases h1
    · rw [cell?_same (hother b hb)]; exact h1
  · rcases old j' cs' hj' with ⟨k1, k2⟩ | ⟨k1, rfl⟩
    · obtain ⟨arr', t', h3, h4', h5', h6⟩ := hS.obj j' cs' B' k2 hne hmv hB'
      exact ⟨arr', t', by rw [hother B' (fun e => k1 (hS.inj j' j cs' _ B k2 hne hj (by simp) (e ▸ hB') hB))]; exact h3, h4', h5', h6⟩
    · cases hmv
  · rcases old j' cs' hj' with ⟨k1, k2⟩ | ⟨rfl, rfl⟩
    · exact hS.nof j' cs' B' k2 hne hB' i hi
    · exact hS.nof j' _ B' hj (by simp) hB' i (Nat.zero_le _)
  · rcases old i1 c1 hi1 with ⟨k1, k2⟩ | ⟨k1, k2⟩ <;> rcases old j1 c2 hj1 with ⟨m1, m2⟩ | ⟨m1, m2⟩
    · exact hS.inj i1 j1 c1 c2 B1 k2 hn1 m2 hn2 hb1 hb2
    · subst m1; exact hS.inj i1 j1 c1 _ B1 k2 hn1 hj (by simp) hb1 hb2
    · subst k1; exact hS.inj i1 j1 _ c2 B1 hj (by simp) m2 hn2 hb1 hb2
    · omega
  · rcases old j' _ hj' with ⟨k1, k2⟩ | ⟨rfl, k2⟩
    · refine (hS.mob j' ks2 vs2 B' k2 hB').goes hgo (hother B' (fun e => k1 (hS.inj j' j _ _ B k2 (by simp) hj (by simp) (e ▸ hB') hB)))
    · injection k2 with k2 _; injection k2 with k2 k3; subst k2 k3
      rw [hB] at hB'; injection hB' with hB'; subst hB'
      exact ⟨es', fs', clk', hset, hst', hpm', hk, hv, h4, h5⟩

theorem sameBits_self {d : TypeDesc} {kv : Value} (hk : MapKept.IsKey d kv) : Instr.sameBits 10000 kv kv = true := by
  cases kv <;> first | (cases d <;> exact hk.elim) | (unfold Instr.sameBits; simp) | skip
  rename_i s
  unfold Instr.sameBits
  exact (bytes_beq' s s).2 rfl
theorem modify_set {es : List MapEntry} {idx : Nat} {e : MapEntry} {f : MapEntry → MapEntry} (he : es[idx]? = some e) : es.toArray.modify idx f = (es.set idx (f e)).toArray := by
  have hidx : idx < es.length := (List.getElem?_eq_some_iff.1 he).1
  apply Array.ext'
  apply List.ext_getElem?
  intro i
  rw [Array.getElem?_toList, Array.getElem?_modify, List.getElem?_toArray]
  simp only [List.getElem?_set]
  by_cases hi : idx = i
  · subst hi
    rw [if_pos rfl, if_pos rfl, if_pos hidx, he]; rfl
  · rw [if_neg hi, if_neg hi]
theorem updateA_run (hS : St P F L X w H) {t : TypeId} {m k v : AV} {mv kv vv : Value} {H' : Heap} (hm : Rel F L m mv) (hk : Rel F L k kv) (hv : Rel F L v vv) (h : updateA P H t m k v = some H') :
    ∃ w', (Instr.mapUpdate t mv kv vv).run P w = .ok () w' ∧ St P F L X w' H' ∧ Goes (fun _ => False) F L w F L w' := by
  unfold updateA at h
  obtain ⟨⟨kt, et⟩, hty, h⟩ := Option.bind_eq_some_iff.1 h
  have hu := mapTy_some hty
  simp only at h
  split at h
  case isFalse => cases h
  rename_i hkk
  obtain ⟨d, hd, hkey, hkv⟩ := isKey_of hkk.1 hk
  split at h
  · rename_i j hh
    cases hm with
    | mp _ B hB =>
      obtain ⟨⟨ks, vs⟩, hmo, h⟩ := Option.bind_eq_some_iff.1 h
      simp only at h
      obtain ⟨r0, hfk, h⟩ := Option.map_eq_some_iff.1 h
      have hH := mapOf_some hmo
      obtain ⟨es, fs, clk, h1, hst, hpm, h2, h3, h4, h5⟩ := hS.mob j ks vs B hH hB
      have hgo := MapKept.run_getObj_map (P := P) h1
      rcases find_both hkey hkv hpm hst.2.2 h2 h4 hfk with ⟨rfl, hn, hnk⟩ | ⟨idx, idx', e, rfl, he, hee, hek, hn⟩
      · simp only at h
        subst h
        have hf : (Instr.findKey kt kv es).run P w = .ok none w := MapKept.run_findKey hd hn
        have hset := MapKept.run_setObj_map (P := P) (.map (es ++ [({ key := kv, val := vv, born := clk } : MapEntry)]).toArray (clk + 1)) h1
        obtain ⟨hS', hgo'⟩ := hS.mapSet (ks' := ks ++ [k]) (vs' := vs ++ [v]) (es' := es ++ [({ key := kv, val := vv, born := clk } : MapEntry)]) (fs' := fs ++ [({ key := kv, val := vv, born := clk } : MapEntry)]) (clk' := clk + 1) hH hB h1 (by have := MapKept.stamped_push hst (key := kv) (val := vv) (by simpa using hnk); simpa using this) (hpm.append_right _) (by simp [h2]) (by simp [h3])
          (fun i k' hk' => by
            rcases Nat.lt_or_ge i ks.length with hl | hl
            · rw [List.getElem?_append_left hl] at hk'
              obtain ⟨e, he, hr⟩ := h4 i k' hk'
              exact ⟨e, by rw [List.getElem?_append_left (by omega)]; exact he, hr⟩
            · rw [List.getElem?_append_right hl] at hk'
              have h0 : i - ks.length = 0 := by have := (List.getElem?_eq_some_iff.1 hk').1; simp at this; omega
              rw [h0] at hk'; injection hk' with hk'; subst hk'
              exact ⟨_, by rw [List.getElem?_append_right (by omega), show i - fs.length = 0 by omega]; rfl, hk⟩)
          (fun i v' hv' => by
            rcases Nat.lt_or_ge i vs.length with hl | hl
            · rw [List.getElem?_append_left hl] at hv'
              obtain ⟨e, he, hr⟩ := h5 i v' hv'
              exact ⟨e, by rw [List.getElem?_append_left (by omega)]; exact he, hr⟩
            · rw [List.getElem?_append_right hl] at hv'
              have h0 : i - vs.length = 0 := by have := (List.getElem?_eq_some_iff.1 hv').1; simp at this; omega
              rw [h0] at hv'; injection hv' with hv'; subst hv'
              exact ⟨_, by rw [List.getElem?_append_right (by omega), show i - fs.length = 0 by omega]; rfl, hv⟩)
        refine ⟨_, ?_, hS', hgo'⟩
        have hpush : es.toArray.push { key := kv, val := vv, born := clk } = (es ++ [({ key := kv, val := vv, born := clk } : MapEntry)]).toArray := by simp
        simp only [Instr.mapUpdate, Sem.run_bind, run_underlying hu, Result.andThen_ok, hgo, MapKept.run_checkKey hd hkey, hf, hpush, hset]
      · simp only at h
        subst h
        have hf : (Instr.findKey kt kv es).run P w = .ok (some (idx', e.val)) w := MapKept.run_findKey hd hn
        have hstay : (Instr.keyThatStays e.key kv).run P w = .ok kv w := by
          unfold Instr.keyThatStays
          rw [hek, if_pos]
          · rfl
          · exact sameBits_self hkey
        have hidx : idx < fs.length := (List.getElem?_eq_some_iff.1 he).1
        have hmod : (es.toArray.modify idx' fun e => { e with key := kv, val := vv }) = (es.set idx' { e with key := kv, val := vv }).toArray := modify_set hee
        have hst2 : MapKept.Stamped (es.set idx' { e with key := kv, val := vv }).toArray clk := by
          rw [← hmod]
          refine MapKept.stamped_modify hst idx' _ (fun _ _ => rfl) (fun e' _ he' => ?_)
          rw [List.getElem?_toArray, hee] at he'
          injection he' with he'; subst he'
          exact hek.symm
        have hset := MapKept.run_setObj_map (P := P) (.map (es.set idx' { e with key := kv, val := vv }).toArray clk) h1
        obtain ⟨e2, he2⟩ : ∃ e2 : MapEntry, e2 = { e with key := kv, val := vv } := ⟨_, rfl⟩
        have hek2 : e2.key = kv := by rw [he2]
        have hev2 : e2.val = vv := by rw [he2]
        rw [← he2] at hmod hset hst2
        obtain ⟨hS', hgo'⟩ := hS.mapSet (ks' := ks) (vs' := vs.set idx v) (es' := es.set idx' e2) (fs' := fs.set idx e2) (clk' := clk) hH hB h1 hst2 (perm_set hpm he hee) (by rw [List.length_set, h2]) (by rw [List.length_set, List.length_set, h3])
          (fun i k' hk' => by
            obtain ⟨e1, he1, hr⟩ := h4 i k' hk'
            by_cases hi : idx = i
            · subst hi
              rw [he] at he1; injection he1 with he1; subst he1
              exact ⟨e2, by rw [List.getElem?_set_self hidx], by rw [hek] at hr; rw [hek2]; exact hr⟩
            · exact ⟨e1, by rw [List.getElem?_set_ne hi]; exact he1, hr⟩)
          (fun i v' hv' => by
            by_cases hi : idx = i
            · subst hi
              rw [List.getElem?_set_self (by omega)] at hv'
              injection hv' with hv'; subst hv'
              exact ⟨e2, by rw [List.getElem?_set_self hidx], by rw [hev2]; exact hv⟩
            · rw [List.getElem?_set_ne hi] at hv'
              obtain ⟨e1, he1, hr⟩ := h5 i v' hv'
              exact ⟨e1, by rw [List.getElem?_set_ne hi]; exact he1, hr⟩)
        refine ⟨_, ?_, hS', hgo'⟩
        simp only [Instr.mapUpdate, Sem.run_bind, run_underlying hu, Result.andThen_ok, hgo, MapKept.run_checkKey hd hkey, hf, List.getElem?_toArray, hee, Option.map_some, Option.getD_some, hstay, hmod, hset]
  · cases h

theorem deleteA_run (hS : St P F L X w H) {t u ty : TypeId} {m k : AV} {mv kv : Value} {H' : Heap} (hm : Rel F L m mv) (hk : Rel F L k kv) (h : deleteA P H t m k = some H') :
    ∃ w', (Builtin.delete_ #[t, u] ty #[mv, kv]).run P w = .ok (.tuple #[]) w' ∧ St P F L X w' H' ∧ Goes (fun _ => False) F L w F L w' := by
  unfold deleteA at h
  obtain ⟨⟨kt, et⟩, hty, h⟩ := Option.bind_eq_some_iff.1 h
  have hu := mapTy_some hty
  simp only at h
  split at h
  case isFalse => cases h
  rename_i hkk
  obtain ⟨d, hd, hkey, hkv⟩ := isKey_of hkk hk
  split at h
  · injection h with h; subst h
    obtain ⟨hmv, _⟩ := hm.v_eq
    subst hmv
    exact ⟨w, by simp [Builtin.delete_, run_underlying hu, MapKept.run_checkKey hd hkey, Result.andThen], hS, Goes.refl _ F L w⟩
  · rename_i j hh
    cases hm with
    | mp _ B hB =>
      obtain ⟨⟨ks, vs⟩, hmo, h⟩ := Option.bind_eq_some_iff.1 h
      simp only at h
      obtain ⟨r0, hfk, h⟩ := Option.map_eq_some_iff.1 h
      have hH := mapOf_some hmo
      obtain ⟨es, fs, clk, h1, hst, hpm, h2, h3, h4, h5⟩ := hS.mob j ks vs B hH hB
      have hgo := MapKept.run_getObj_map (P := P) h1
      rcases find_both hkey hkv hpm hst.2.2 h2 h4 hfk with ⟨rfl, hn, hnk⟩ | ⟨idx, idx', e, rfl, he, hee, hek, hn⟩
      · simp only at h
        subst h
        have hf : (Instr.findKey kt kv es).run P w = .ok none w := MapKept.run_findKey hd hn
        have hset := MapKept.run_setObj_map (P := P) (.map es.toArray clk) h1
        obtain ⟨hS', hgo'⟩ := hS.mapSet (ks' := ks) (vs' := vs) (es' := es) (fs' := fs) (clk' := clk) hH hB h1 hst hpm h2 h3 h4 h5
        rw [List.set_getElem?_self' hH] at hS'
        refine ⟨_, ?_, hS', hgo'⟩
        simp [Builtin.delete_, run_underlying hu, hgo, MapKept.run_checkKey hd hkey, hf, Result.andThen, hset]
      · simp only at h
        subst h
        have hf : (Instr.findKey kt kv es).run P w = .ok (some (idx', e.val)) w := MapKept.run_findKey hd hn
        have hidx : idx < fs.length := (List.getElem?_eq_some_iff.1 he).1
        have her : es.toArray.eraseIdxIfInBounds idx' = (es.eraseIdx idx').toArray := by simp
        have hset := MapKept.run_setObj_map (P := P) (.map (es.eraseIdx idx').toArray clk) h1
        have hshift : ∀ {α : Type} {l : List α} (i : Nat) (x : α), (l.eraseIdx idx)[i]? = some x → l[if i < idx then i else i + 1]? = some x := by
          intro α l i x hx
          rw [List.getElem?_eraseIdx] at hx
          split at hx
          · rename_i h; rw [if_pos h]; exact hx
          · rename_i h; rw [if_neg h]; exact hx
        have hback : ∀ (i : Nat) (x : MapEntry), fs[if i < idx then i else i + 1]? = some x → (fs.eraseIdx idx)[i]? = some x := by
          intro i x hx
          rw [List.getElem?_eraseIdx]
          split
          · rename_i h; rw [if_pos h] at hx; exact hx
          · rename_i h; rw [if_neg h] at hx; exact hx
        obtain ⟨hS', hgo'⟩ := hS.mapSet (ks' := ks.eraseIdx idx) (vs' := vs.eraseIdx idx) (es' := es.eraseIdx idx') (fs' := fs.eraseIdx idx) (clk' := clk) hH hB h1 (by rw [← her]; exact MapKept.stamped_erase hst idx') (perm_erase hpm he hee)
          (by rw [List.length_eraseIdx_of_lt (by omega), List.length_eraseIdx_of_lt hidx]; omega) (by rw [List.length_eraseIdx_of_lt (by omega), List.length_eraseIdx_of_lt hidx]; omega)
          (fun i k' hk' => by
            obtain ⟨e1, he1, hr⟩ := h4 _ k' (hshift i k' hk')
            exact ⟨e1, hback i e1 he1, hr⟩)
          (fun i v' hv' => by
            obtain ⟨e1, he1, hr⟩ := h5 _ v' (hshift i v' hv')
            exact ⟨e1, hback i e1 he1, hr⟩)
        refine ⟨_, ?_, hS', hgo'⟩
        simp [Builtin.delete_, run_underlying hu, hgo, MapKept.run_checkKey hd hkey, hf, Result.andThen, hset]
  · cases h
end
end Go.Lv
