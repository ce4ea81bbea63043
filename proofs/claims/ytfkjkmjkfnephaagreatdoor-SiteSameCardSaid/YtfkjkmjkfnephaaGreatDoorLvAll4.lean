/- A value semantics of the loaded code, its soundness, and walks through functions over it. -/
import Derived.Test.YtfkjkmjkfnephaaGreatDoorLvAll3
import Derived.Great.BuildSlice
import Derived.Lib.ConvBytes
set_option linter.unusedVariables false
set_option linter.unusedSimpArgs false
namespace Go.Lv
section
variable {P : Program} {F : Facts} {L : List Nat} {w : World} {X : Nat → Prop} {H : Heap}
theorem mapM_places {P : Program} {w : World} : ∀ (fs : List Field) (ns : List Nat), fs.mapM (fun f => sizeT P f.type) = some ns → (fs.mapM (fun f => do pure (f.offset, ← sizeOf f.type) : Field → Sem (Nat × Nat))).run P w = .ok (List.zipWith (fun f n => (f.offset, n)) fs ns) w := by
 intro fs
 induction fs with
 | nil => intro ns h; simp at h; subst h; rfl
 | cons f fs ih =>
  intro ns h
  rw [List.mapM_cons] at h
  obtain ⟨n, hn, h⟩ := xoB.1 h
  obtain ⟨ns', hns, h⟩ := xoB.1 h
  injection h with h; subst h
  rw [List.mapM_cons]
  simp only [Sem.run_bind, sizeT_run hn, Result.andThen_ok, Sem.run_pure, ih ns' hns, List.zipWith_cons_cons]
theorem place_get {fs : List Field} {ns : List Nat} {P : Program} (h : fs.mapM (fun f => sizeT P f.type) = some ns) : ∀ (i : Nat), (List.zipWith (fun (f : Field) (n : Nat) => (f.offset, n)) fs ns)[i]? = (fs[i]?).bind (fun (f : Field) => (sizeT P f.type).map fun n => (f.offset, n)) := by
 induction fs generalizing ns with
 | nil => intro i; simp
 | cons f fs ih =>
  rw [List.mapM_cons] at h
  obtain ⟨n, hn, h⟩ := xoB.1 h
  obtain ⟨ns', hns, h⟩ := xoB.1 h
  injection h with h; subst h
  intro i
  cases i with
  | zero => simp [hn]
  | succ i => simpa using ih hns i
theorem buildA_run {t : TypeId} {ps : List (Nat × AV)} {qs : List (Nat × Value)} {r : AV} (hp : PartsRel F L ps qs) (h : buildA P t ps = some r) : ∃ u, (Instr.build t qs.toArray).run P w = .ok u w ∧ Rel F L r u := by
 unfold buildA at h
 split at h
 ·rename_i fs z hu hz
  obtain ⟨cs, hcs, h⟩ := xoB.1 h
  obtain ⟨c, hc, rfl⟩ := xoM.1 h
  obtain ⟨v, arr, h1, h2, h3, h4, _⟩ := zeroA_run (P := P) (F := F) (L := L) (w := w) hz
  obtain ⟨arr', e1, e2, e3⟩ := fillA_run ps qs z c arr hp h3 h4 hc
  refine ⟨.agg arr'.toArray, ?_, .agg _ _ e2 e3⟩
  have hpl := mapM_places (w := w) fs.toList cs hcs
  have hget : (fun i : Nat => ((List.zipWith (fun (f : Field) (n : Nat) => (f.offset, n)) fs.toList cs).toArray)[i]?) = fun i => (fs[i]?).bind fun f => (sizeT P f.type).map fun n => (f.offset, n) := by
   funext i
   simpa using place_get hcs i
  have hpl' : (fs.mapM (fun f => do pure (f.offset, ← sizeOf f.type) : Field → Sem (Nat × Nat))).run P w = .ok (List.zipWith (fun f n => (f.offset, n)) fs.toList cs).toArray w := by
   rw [← Array.toArray_toList (xs := fs), List.mapM_toArray]
   simp only [Sem.run_map, hpl]
   simp
  simp only [Instr.build, Sem.run_bind, h1, Result.andThen_ok, run_underlying hu, hpl', h2]
  rw [hget, e1]
  simp
 ·rename_i n e z hu hz
  obtain ⟨m, hm, h⟩ := xoB.1 h
  obtain ⟨c, hc, rfl⟩ := xoM.1 h
  obtain ⟨v, arr, h1, h2, h3, h4, _⟩ := zeroA_run (P := P) (F := F) (L := L) (w := w) hz
  obtain ⟨arr', e1, e2, e3⟩ := fillA_run ps qs z c arr hp h3 h4 hc
  refine ⟨.agg arr'.toArray, ?_, .agg _ _ e2 e3⟩
  simp only [Instr.build, Sem.run_bind, h1, Result.andThen_ok, run_underlying hu, sizeT_run hm, h2]
  rw [e1]
  simp
 ·cases h
end
end Go.Lv
