import Derived.Test.YticlhjamafdmfaaLvH
import Derived.Test.YticlhjamafdmfaaLvMap
set_option linter.unusedVariables false
set_option linter.unusedSimpArgs false
namespace Go.Lv
section
variable {P : Program} {F : Facts} {L : List Nat} {w : World} {X : Nat → Prop} {H : Heap}

theorem partsRel {ρ : Operand → Value} {f : Operand → AV} (hT : ∀ x, Rel F L (f x) (ρ x)) (ps : Array (Nat × Operand)) : PartsRel F L (ps.toList.map fun p => (p.1, f p.2)) (ps.toList.map fun p => (p.1, ρ p.2)) := by
  refine ⟨by simp, fun k p q hp hq => ?_⟩
  rw [List.getElem?_map] at hp hq
  obtain ⟨x, hx, rfl⟩ := Option.map_eq_some_iff.1 hp
  rw [hx] at hq
  injection hq with hq
  subst hq
  exact ⟨rfl, hT _⟩

theorem argsRel {ρ : Operand → Value} {f : Operand → AV} (hT : ∀ x, Rel F L (f x) (ρ x)) (as : Array Operand) : ∀ (k : Nat) (c : AV), (as.toList.map f)[k]? = some c → Rel F L c ((as.toList.map ρ).getD k undef) := by
  intro k c hk
  rw [List.getElem?_map] at hk
  obtain ⟨x, hx, rfl⟩ := Option.map_eq_some_iff.1 hk
  rw [List.getD_eq_getElem?_getD, List.getElem?_map, hx]
  exact hT x

def isAppend : Op → Bool
  | .call { callee := .builtin .append, .. } => true
  | _ => false

theorem minA_run {a b r : AV} {x y : Value} (ha : Rel F L a x) (hb : Rel F L b y) (h : minA a b = some r) : ∃ u, (Builtin.min2 x y).run P w = .ok u w ∧ Rel F L r u := by
  unfold minA at h
  split at h
  · obtain ⟨rfl, _⟩ := ha.v_eq
    obtain ⟨rfl, _⟩ := hb.v_eq
    injection h with h; subst h
    exact ⟨_, by simp [Builtin.min2], .sc _ rfl⟩
  · cases h
theorem maxA_run {a b r : AV} {x y : Value} (ha : Rel F L a x) (hb : Rel F L b y) (h : maxA a b = some r) : ∃ u, (Builtin.max2 x y).run P w = .ok u w ∧ Rel F L r u := by
  unfold maxA at h
  split at h
  · obtain ⟨rfl, _⟩ := ha.v_eq
    obtain ⟨rfl, _⟩ := hb.v_eq
    injection h with h; subst h
    exact ⟨_, by simp [Builtin.max2], .sc _ rfl⟩
  · cases h

theorem list_two {α : Type} {a b : α} {f : Operand → α} {as : Array Operand} (h : as.toList.map f = [a, b]) : ∃ x y, as = #[x, y] ∧ f x = a ∧ f y = b := by
  obtain ⟨as⟩ := as
  match as, h with
  | [x, y], h => simp at h; exact ⟨x, y, rfl, h.1, h.2⟩
theorem list_one {α : Type} {a : α} {f : Operand → α} {as : Array Operand} (h : as.toList.map f = [a]) : ∃ x, as = #[x] ∧ f x = a := by
  obtain ⟨as⟩ := as
  match as, h with
  | [x], h => simp at h; exact ⟨x, rfl, h⟩
theorem arr_one {as : Array TypeId} {a : TypeId} (h : as.toList = [a]) : as = #[a] := by
  obtain ⟨as⟩ := as; simp at h; subst h; rfl
theorem arr_two {as : Array TypeId} {a b : TypeId} (h : as.toList = [a, b]) : as = #[a, b] := by
  obtain ⟨as⟩ := as; simp at h; subst h; rfl

theorem argA_rel {C : Cfg} {g : FuncId} {a : AV} {v : Value} (h : Rel F L a v) : Rel F L (argA C g a) v := by
  unfold argA
  cases C.raw g
  · exact h.plainA
  · exact h
theorem zeroA_plain {t : TypeId} {z : List AV} (h : zeroA P t = some z) : isMv z = false := by
  unfold zeroA at h
  obtain ⟨v, hv, h⟩ := Option.bind_eq_some_iff.1 h
  split at h
  · rename_i hone
    injection h with h; subst h
    exact (plainRow_spec (plainRow_one hone)).1
  · cases h
theorem builtinA_run {ρ : Operand → Value} {f : Operand → AV} (hT : ∀ x, Rel F L (f x) (ρ x)) {b : Builtin} {ts : Array TypeId} {as : Array Operand} {r : AV} (ty : TypeId) (hb : b ≠ .append)
    (h : builtinA P b ts.toList (as.toList.map f) = some r) (cs : Array Bool) : ∃ u, (builtin b ts ty cs (as.map ρ)).run P w = .ok (.value u) w ∧ Rel F L r u := by
  generalize hts : ts.toList = tl at h
  generalize has : as.toList.map f = al at h
  unfold builtinA at h
  split at h
  · rename_i t s
    have := arr_one hts; subst this
    obtain ⟨x, rfl, hx⟩ := list_one has
    have hr := hT x
    rw [hx] at hr
    obtain ⟨hv, _⟩ := hr.v_eq
    split at h
    · rename_i hu
      injection h with h; subst h
      exact ⟨_, by simp [builtin, Builtin.len_, ← hv, run_underlying hu, goInt], .sc _ rfl⟩
    · rename_i hu
      split at h
      · rename_i hn
        injection h with h; subst h
        have := isNilV_spec hn
        subst this
        exact ⟨_, by simp [builtin, Builtin.len_, ← hv, run_underlying hu, goInt], .sc _ rfl⟩
      · cases h
    · cases h
  · rename_i t xs
    have := arr_one hts; subst this
    obtain ⟨x, rfl, hx⟩ := list_one has
    have hr := hT x
    rw [hx] at hr
    split at h
    · rename_i e' hu
      injection h with h; subst h
      have hl : ∃ a c, ρ x = .slice a xs.length c := by
        generalize ρ x = v at hr
        cases hr with
        | sl0 a cap h => exact ⟨a, cap, rfl⟩
        | sl xs B o len cap sz vals hl h0 hc hs hn hf hr => exact ⟨_, cap, by rw [hl]⟩
      obtain ⟨a, c, hl⟩ := hl
      exact ⟨_, by simp [builtin, Builtin.len_, hl, run_underlying hu, goInt], .sc _ rfl⟩
    · cases h
  · rename_i t j off len n g
    have := arr_one hts; subst this
    obtain ⟨x, rfl, hx⟩ := list_one has
    have hr := hT x
    rw [hx] at hr
    split at h
    · rename_i e' hu
      injection h with h; subst h
      have hl : ∃ a c, ρ x = .slice a len c := by
        generalize ρ x = v at hr
        cases hr with
        | mr _ _ _ _ cap B _ hB hc hn hr hx => exact ⟨_, cap, rfl⟩
      obtain ⟨a, c, hl⟩ := hl
      exact ⟨_, by simp [builtin, Builtin.len_, hl, run_underlying hu, goInt], .sc _ rfl⟩
    · cases h
  · obtain ⟨x, y, rfl, hx, hy⟩ := list_two has
    obtain ⟨u, h1, h2⟩ := minA_run (P := P) (w := w) (hx ▸ hT x) (hy ▸ hT y) h
    exact ⟨u, by simp [builtin, Builtin.min_, h1], h2⟩
  · obtain ⟨x, y, rfl, hx, hy⟩ := list_two has
    obtain ⟨u, h1, h2⟩ := maxA_run (P := P) (w := w) (hx ▸ hT x) (hy ▸ hT y) h
    exact ⟨u, by simp [builtin, Builtin.max_, h1], h2⟩
  · exact absurd rfl hb
  · exact absurd rfl hb
  · cases h

/-- What an operation comes to. -/
structure Done (P : Program) (X : Nat → Prop) (F : Facts) (L : List Nat) (w : World) (o : Oper) (ρ : Operand → Value) (r : AV) (H' : Heap) (F' : Facts) (L' : List Nat) (w' : World) (u : Value) : Prop where
  run : (execOp ρ o).run P w = .ok (.value u) w' ∨ ((execOp ρ o).run P w = .ok .skip w' ∧ u = undef)
  rel : Rel F' L' r u
  st : St P F' L' X w' H'
  goes : Goes (fun _ => False) F L w F' L' w'

theorem opA_run (hS : St P F L X w H) {o : Oper} {ρ : Operand → Value} {e : Env} (hT : ∀ x, Rel F L (ev e x) (ρ x)) (hcn : ∀ v, ρ (.const v) = v) {r : AV} {H' : Heap} (h : opA P e H o.op = some (r, H')) (happ : isAppend o.op = false) :
    ∃ F' L' w' u, Done P X F L w o ρ r H' F' L' w' u ∧ ∀ t len ps, o.op = .buildSlice t len ps → ∃ el n, elemOfT P t = some el ∧ sizeT P el = some n ∧ Own F' L' X w' n u ∧ u.ownBlock = some w.heap.size ∧ w.heap.size < w'.heap.size := by
  have same : ∀ {u : Value}, (execOp ρ o).run P w = .ok (.value u) w → Rel F L r u → H' = H → (∀ t len ps, o.op ≠ .buildSlice t len ps) →
      ∃ F' L' w' u, Done P X F L w o ρ r H' F' L' w' u ∧ ∀ t len ps, o.op = .buildSlice t len ps → ∃ el n, elemOfT P t = some el ∧ sizeT P el = some n ∧ Own F' L' X w' n u ∧ u.ownBlock = some w.heap.size ∧ w.heap.size < w'.heap.size := by
    intro u h1 h2 h3 h4
    subst h3
    exact ⟨F, L, w, u, ⟨.inl h1, h2, hS, Goes.refl _ F L w⟩, fun t len ps hh => absurd hh (h4 t len ps)⟩
  have some1 : ∀ {x : Option AV}, (x.map fun a => (a, H)) = some (r, H') → x = some r ∧ H' = H := by
    intro x hx
    obtain ⟨a, ha, he⟩ := Option.map_eq_some_iff.1 hx
    injection he with h1 h2
    exact ⟨h1 ▸ ha, h2.symm⟩
  obtain ⟨dst, op, type, pos, after, guard⟩ := o
  simp only at h happ same ⊢
  unfold opA at h
  split at h
  · injection h with h; injection h with h1 h2
    exact same (by simp [execOp]) (h1 ▸ hT _) h2.symm (by simp)
  · injection h with h; injection h with h1 h2
    exact same (by simp [execOp]) (h1 ▸ hT _) h2.symm (by simp)
  · rename_i c a b
    split at h
    · rename_i t hc
      injection h with h; injection h with h1 h2
      have hcr := hT c
      rw [hc] at hcr
      obtain ⟨hv, _⟩ := hcr.v_eq
      refine same (u := if t then ρ a else ρ b) (by cases t <;> simp [execOp, ← hv, asBool]) ?_ h2.symm (by simp)
      subst h1
      cases t
      · exact hT b
      · exact hT a
    · cases h
  · rename_i t
    obtain ⟨z, hz, he⟩ := Option.map_eq_some_iff.1 h
    injection he with h1 h2; subst h1 h2
    obtain ⟨v, arr, z1, z2, z3, z4, _⟩ := zeroA_run (P := P) (F := F) (L := L) (w := w) hz
    obtain ⟨hS', hgo⟩ := hS.var (Grew.alloc w arr t) z (zeroA_plain hz) z3 z4
    refine ⟨F, _, _, _, ⟨.inl ?_, .ptr H.length 0 w.heap.size ?_, hS', hgo⟩, by simp⟩
    · simp [execOp, Instr.alloc, z1, newVar, newRow, z2]
    · rw [← hS.len, List.getElem?_append_right (Nat.le_refl _)]
      simp
  · rename_i t x
    split at h
    · rename_i hone
      injection h with h; injection h with h1 h2; subst h1 h2
      have hx := evX_rel hT hcn x
      obtain ⟨h1, h2⟩ := hx.cellsOne hone
      obtain ⟨hS', hgo⟩ := hS.var (Grew.alloc w (ρ x).cells.toList t) (evX e x).cells (plainRow_spec (plainRow_one hone)).1 (by simpa using h1) h2
      refine ⟨F, _, _, _, ⟨.inl ?_, .ptr H.length 0 w.heap.size ?_, hS', hgo⟩, by simp⟩
      · simp [execOp, Instr.box, newVar, newRow]
      · rw [← hS.len, List.getElem?_append_right (Nat.le_refl _)]
        simp
    · cases h
  · rename_i t ps
    obtain ⟨hx, rfl⟩ := some1 h
    obtain ⟨u, h1, h2⟩ := buildA_run (P := P) (w := w) (partsRel (evX_rel hT hcn) ps) hx
    have hps : (ps.map fun p => (p.1, ρ p.2)) = (ps.toList.map fun p => (p.1, ρ p.2)).toArray := by apply Array.ext'; simp
    exact same (u := u) (by simp [execOp]; rw [hps]; simp [h1]) h2 rfl (by simp)
  · rename_i t len ps
    obtain ⟨hx, rfl⟩ := some1 h
    obtain ⟨u, w', F', n, el, h1, h2, h3, h4, h5, h6, h7, h8, h9⟩ := buildSliceA_run hS (partsRel hT ps) hx
    have hps : (ps.map fun p => (p.1, ρ p.2)) = (ps.toList.map fun p => (p.1, ρ p.2)).toArray := by apply Array.ext'; simp
    refine ⟨F', L, w', u, ⟨.inl ?_, h4, h5, h6⟩, fun t' len' ps' he => ?_⟩
    · simp [execOp]; rw [hps]; simp [h3]
    · injection he with e1 e2 e3
      subst e1
      exact ⟨el, n, h1, h2, h7, h8, h9⟩
  · rename_i t a
    obtain ⟨hx, rfl⟩ := some1 h
    obtain ⟨u, h1, h2⟩ := loadA_run hS (hT a) hx
    exact same (u := u) (by simp [execOp, h1]) h2 rfl (by simp)
  · rename_i t a x
    obtain ⟨H1, hH, he⟩ := Option.map_eq_some_iff.1 h
    injection he with h1 h2; subst h1 h2
    obtain ⟨w', h1, h2, h3⟩ := storeA_run hS (hT a) (evX_rel hT hcn x) hH
    exact ⟨F, L, w', undef, ⟨.inr ⟨by simp [execOp, h1], rfl⟩, .un _, h2, h3⟩, by simp⟩
  · rename_i x
    split at h
    · rename_i j off hx
      injection h with h; injection h with h1 h2; subst h1
      have hr := hT x
      rw [hx] at hr
      cases hv : ρ x with
      | pointer p =>
        rw [hv] at hr
        cases hr with
        | ptr j off B hB => exact same (u := .pointer (some ⟨B, off, none⟩)) (by simp [execOp, hv]) (.ptr _ _ _ hB) h2.symm (by simp)
      | _ => rw [hv] at hr; cases hr
    · cases h
  · rename_i op xt x y yt
    obtain ⟨hx, rfl⟩ := some1 h
    obtain ⟨u, h1, h2⟩ := bin_run (P := P) (w := w) (xo := x) (yo := y) hx (hT x) (hT y)
    exact same (u := u) (by simp only [execOp]; rw [Sem.run_bind, h1]; rfl) h2 rfl (by simp)
  · rename_i op xt x
    obtain ⟨hx, rfl⟩ := some1 h
    obtain ⟨u, h1, h2⟩ := un1_run (P := P) (w := w) hx (hT x)
    exact same (u := u) (by simp [execOp, h1]) h2 rfl (by simp)
  · rename_i s d x
    obtain ⟨hx, rfl⟩ := some1 h
    by_cases hc : ∀ y, plainA (ev e x) ≠ .v (.string y) ∨ ∀ el, P.underlying d ≠ some (.slice el)
    · obtain ⟨u, h1, h2⟩ := conv_same_run hS (hT x).plainA hx hc
      exact same (u := u) (by simp [execOp, h1]) h2 rfl (by simp)
    · obtain ⟨y, hy⟩ := Classical.not_forall.1 hc
      have hy1 : plainA (ev e x) = .v (.string y) := Classical.byContradiction fun h => hy (.inl h)
      have hy2 : ∃ el, P.underlying d = some (.slice el) := by
        refine Classical.byContradiction fun h => hy (.inr fun el he => h ⟨el, he⟩)
      obtain ⟨el, hd⟩ := hy2
      have hr := (hT x).plainA
      rw [hy1] at hr hx
      obtain ⟨hv, _⟩ := hr.v_eq
      have hconv : ∃ us, P.underlying s = some us ∧ P.underlying el = some (.int .u8) ∧ r = strA y := by
        unfold conv at hx
        split at hx
        · rename_i h1 h2 h3; rw [hd] at h2; cases h2
        · rename_i h1 h2 h3; rw [hd] at h2; cases h2
        · rename_i h1 h2; cases h2
        · rename_i e1 x1 h1 h2 h3
          rw [hd] at h2
          injection h2 with h2; injection h2 with h2; subst h2
          split at hx
          · rename_i h4
            injection hx with hx
            injection h3 with h3; injection h3 with h3; subst h3
            exact ⟨_, h1, h4, hx.symm⟩
          · cases hx
        · cases hx
      obtain ⟨us, hs1, hs2, rfl⟩ := hconv
      have hrun := Lib.run_convert_string_bytes (P := P) w s d el y hs1 hd hs2
      rw [hv] at hrun
      have hg : Grew w (Lib.bytesWorld w el y) (Lib.bytesCells w el y).toList el ((Lib.bytesCells w el y).size, (Lib.bytesCells w el y).size + 1) :=
        ⟨Lib.bytesWorld_size w el y, fun B hB => Lib.bytesWorld_at_old w el y B hB, by simpa using Lib.bytesWorld_at_new w el y, by
          have : Lib.bytesWorld w el y = (w.drew.alloc (.cells (Lib.bytesCells w el y) el)).freeze ⟨w.heap.size, (Lib.bytesCells w el y).size, none⟩ 1 := rfl
          rw [this]
          simp [World.freeze, World.alloc, World.drew, -World.alloc_eq, -World.drew_eq]⟩
      obtain ⟨vs, hvs⟩ : ∃ vs : List Value, vs = y.data.toList.map fun b => Value.int .u8 b.toNat := ⟨_, rfl⟩
      have hpre : (Lib.bytesCells w el y).toList = vs ++ (Array.replicate (grownCap w y.size 0 el - y.size) (Value.int .u8 0)).toList := by
        rw [hvs]
        simp [Lib.bytesCells]
      obtain ⟨hS', hgo⟩ := hS.row hg vs (fun i v hv => ⟨by rw [hpre, List.getElem?_append_left (List.getElem?_eq_some_iff.1 hv).1]; exact hv, by
        have := List.mem_of_getElem? hv
        rw [hvs] at this
        obtain ⟨b, _, rfl⟩ := List.mem_map.1 this
        rfl⟩)
      have hrow : Row (addF F w.heap.size vs) L 1 (y.data.toList.map byteA) vs := by
        refine ⟨by simp [hvs], fun i a ha => ?_, fun i a k c ha hk => ?_⟩
        · rw [List.getElem?_map] at ha
          obtain ⟨b, _, rfl⟩ := Option.map_eq_some_iff.1 ha
          rfl
        · rw [List.getElem?_map] at ha
          obtain ⟨b, hb, rfl⟩ := Option.map_eq_some_iff.1 ha
          have hk0 : k = 0 := by
            have := (List.getElem?_eq_some_iff.1 hk).1
            simp [byteA, AV.cells] at this
            exact this
          subst hk0
          simp [byteA, AV.cells] at hk
          subst hk
          rw [Nat.mul_one, Nat.add_zero, List.getD_eq_getElem?_getD, hvs, List.getElem?_map, hb]
          exact .sc _ rfl
      have hsz : (y.data.toList.map byteA).length = y.size := by simp
      have hrel := Rel.mk (F := addF F w.heap.size vs) (L := L) (B := w.heap.size) (o := 0) (cap := grownCap w y.size 0 el) hrow (by omega) (by rw [hsz]; exact grownCap_ge w _ _ _) (fun j u hu => by rw [addF_get, if_pos rfl, Nat.zero_add]; exact hu)
      rw [hsz] at hrel
      exact ⟨_, L, _, _, ⟨.inl (by simp [execOp, hrun]), hrel, hS', hgo⟩, by simp⟩
  · rename_i f first caps
    split at h
    · rename_i hf
      injection h with h; injection h with h1 h2; subst h1
      refine same (u := .func (.func f) #[] (caps.toList.map ρ).toArray) ?_ (.fn f _ _ (by simp) (argsRel hT caps)) h2.symm (by simp)
      have : first = #[] := Array.eq_empty_of_size_eq_zero hf
      subst this
      simp only [execOp, Instr.makeFunc, Sem.run_bind, Sem.run_pure, Result.andThen_ok]
      congr 2
      simp
      apply Array.ext'
      simp
    · cases h
  · rename_i t x lo hi mx
    obtain ⟨hx, rfl⟩ := some1 h
    obtain ⟨u, h1, h2⟩ := sliceA_run (P := P) (w := w) hT (hT x).owA hx
    exact same (u := u) (by simp [execOp, h1]) h2 rfl (by simp)
  · rename_i s x f
    obtain ⟨hx, rfl⟩ := some1 h
    obtain ⟨u, h1, h2⟩ := fieldAddrA_run (P := P) (w := w) (hT x) hx
    exact same (u := u) (by simp [execOp, h1]) h2 rfl (by simp)
  · rename_i t x f
    obtain ⟨hx, rfl⟩ := some1 h
    obtain ⟨u, h1, h2⟩ := fieldA_run (P := P) (w := w) (hT x) hx
    exact same (u := u) (by simp [execOp, h1]) h2 rfl (by simp)
  · rename_i t x i
    obtain ⟨hx, rfl⟩ := some1 h
    obtain ⟨u, h1, h2⟩ := indexAddrA_run (P := P) (w := w) (hT x).owA (hT i) hx
    exact same (u := u) (by simp [execOp, h1]) h2 rfl (by simp)
  · rename_i t x i
    obtain ⟨hx, rfl⟩ := some1 h
    obtain ⟨u, h1, h2⟩ := indexA_run (P := P) (w := w) (hT x) (hT i) hx
    exact same (u := u) (by simp [execOp, h1]) h2 rfl (by simp)
  · rename_i t i
    split at h
    · rename_i xs hx
      obtain ⟨hg, rfl⟩ := some1 h
      have hr := hT t
      rw [hx] at hr
      cases hv : ρ t with
      | tuple vs =>
        rw [hv] at hr
        cases hr with
        | tup xs arr hl hr =>
          have hlt : i < arr.length := hl ▸ (List.getElem?_eq_some_iff.1 hg).1
          refine same (u := arr.getD i undef) ?_ (hr i r hg) rfl (by simp)
          have hg' : (arr.toArray)[i]? = some (arr.getD i undef) := by rw [List.getElem?_toArray]; exact getD_get hlt
          simp only [execOp, hv, Instr.extract, hg', Sem.run_bind, Sem.run_pure, Result.andThen_ok]
      | _ => rw [hv] at hr; cases hr
    · cases h
  · simp [isAppend] at happ
  · rename_i args argTypes
    split at h
    · rename_i m k t u hargs htys
      obtain ⟨H1, hH, he⟩ := Option.map_eq_some_iff.1 h
      injection he with h1 h2; subst h1 h2
      have ha : args = #[m, k] := by obtain ⟨args⟩ := args; simpa using hargs
      have hty := arr_two htys
      subst ha hty
      obtain ⟨w', h1, h2, h3⟩ := deleteA_run (u := u) (ty := type) hS (hT m) (hT k) hH
      have h1' : (builtin .delete #[t, u] type (#[m, k].map fun | .const _ => true | _ => false) (#[m, k].map ρ)).run P w = .ok (.value (.tuple #[])) w' := by
        simp [builtin, h1]
      exact ⟨F, L, w', .tuple #[], ⟨.inl h1', .tup [] [] rfl (fun k c hk => by simp at hk), h2, h3⟩, by simp⟩
    · cases h
  · rename_i b args argTypes hnap hnde
    obtain ⟨hx, rfl⟩ := some1 h
    have hb : b ≠ .append := by rintro rfl; simp [isAppend] at happ
    obtain ⟨u, h1, h2⟩ := builtinA_run (P := P) (w := w) (fun x => (hT x).owA) type hb hx (args.map fun | .const _ => true | _ => false)
    exact same (u := u) h1 h2 rfl (fun _ _ _ hh => by cases hh)
  · rename_i t
    obtain ⟨p, hp, he⟩ := Option.map_eq_some_iff.1 h
    injection he with h1 h2; subst h1 h2
    obtain ⟨hS', hgo⟩ := hS.mapNew
    refine ⟨F, _, _, .map (some w.heap.size), ⟨.inl ?_, .mp H.length w.heap.size ?_, hS', hgo⟩, by simp⟩
    · simp [execOp, Instr.makeMap, newObj, Result.andThen, Sem.run]
    · rw [← hS.len, List.getElem?_append_right (Nat.le_refl _)]
      simp
  · rename_i t m k c
    obtain ⟨hx, rfl⟩ := some1 h
    obtain ⟨u, h1, h2⟩ := lookupA_run hS (hT m) (hT k) hx
    exact same (u := u) (by simp [execOp, h1]) h2 rfl (by simp)
  · rename_i t m k v
    obtain ⟨H1, hH, he⟩ := Option.map_eq_some_iff.1 h
    injection he with h1 h2; subst h1 h2
    obtain ⟨w', h1, h2, h3⟩ := updateA_run hS (hT m) (hT k) (hT v) hH
    exact ⟨F, L, w', undef, ⟨.inr ⟨by simp [execOp, h1], rfl⟩, .un _, h2, h3⟩, by simp⟩
  · cases h
end
end Go.Lv
