/- Walks: origins held against one another, as texts. -/
import Derived.Test.YtfkjkmjkfnephaaGreatDoorSiD
set_option linter.unusedVariables false
set_option linter.unusedSimpArgs false
namespace Go.Proofs
open Go.Lv
namespace Hs
open Pu Ut Utf In
variable {H : Heap}
def eqO (o o' : OrgV) : Bool := decide (o.s = o'.s ∧ hostE o.h o'.h = true ∧ o.p = o'.p)
theorem eqF1_hostP {P : Program} {ti ts tu ta te : TypeId} {k v k' v' : Int} {n n' : List UInt8} {l l' : List Int} {f0 f1 f2 f3 : Field}
  (n0 : f0.name = "_" ↔ False) (n1 : f1.name = "_" ↔ False) (n2 : f2.name = "_" ↔ False) (n3 : f3.name = "_" ↔ False) (t0 : f0.type = ti) (t1 : f1.type = ts) (t2 : f2.type = tu) (t3 : f3.type = ta) (o0 : f0.offset = 0) (o1 : f1.offset = 1) (o2 : f2.offset = 2) (o3 : f3.offset = 3)
  [u0 : UndIs P ti (.int .i64)] [u1 : UndIs P ts .string] [u2 : UndIs P tu (.int .u32)] [u3 : UndIs P ta (.array 8 te)] [u4 : UndIs P te (.int .u16)] [a3 : AggIs P ti false] [a9 : AggIs P ts false] [a22 : AggIs P tu false] [a24 : AggIs P ta true] [s24 : SizeIs P ta 8] [s16 : SizeIs P te 1]
  (hl : l.length = 8) (hl' : l'.length = 8) : eqF1 P (hcells k n v l) (hcells k' n' v' l') [f0, f1, f2, f3] = some (eqH k n v l k' n' v' l') := by
 have hc : ∀ k n v l, hcells k n v l = .i k :: .str n :: .v (.int .u32 v) :: l.map uA := fun _ _ _ _ => rfl
 have p0 : ∀ k n v l, partA P ti (hcells k n v l) 0 = some (.i k) := fun k n v l => by unfold partA; rw [a3.h]; rfl
 have p1 : ∀ k n v l, partA P ts (hcells k n v l) 1 = some (.str n) := fun k n v l => by unfold partA; rw [a9.h]; rfl
 have p2 : ∀ k n v l, partA P tu (hcells k n v l) 2 = some (.v (.int .u32 v)) := fun k n v l => by unfold partA; rw [a22.h]; rfl
 have p3 : ∀ k n v l, l.length = 8 → partA P ta (hcells k n v l) 3 = some (.agg (l.map uA)) := fun k n v l h => by
  unfold partA; rw [a24.h, s24.h]
  simp only
  rw [if_pos (by simp [hcells, h])]
  rw [hc]
  simp only [List.drop_succ_cons, List.drop_zero]
  rw [List.take_of_length_le (by simp [h])]
 have q0 : eqA1 P ti (.i k) (.i k') = some (k == k') := by unfold eqA1; rw [u0.h]; simp
 have q1 : eqA1 P ts (.str n) (.str n') = some (n == n') := by
  unfold eqA1; rw [u1.h]
  show some ((⟨⟨n⟩⟩ : ByteArray) == ⟨⟨n'⟩⟩) = _
  congr 1
  rw [Bool.eq_iff_iff, bytes_beq']
  simp
 have q2 : eqA1 P tu (.v (.int .u32 v)) (.v (.int .u32 v')) = some (v == v') := by unfold eqA1; rw [u2.h]; simp
 have q3 : eqA1 P ta (.agg (l.map uA)) (.agg (l'.map uA)) = some (decide (l = l')) := by
  unfold eqA1
  rw [u3.h]
  simp only
  rw [u4.h]
  simp only
  rw [if_pos ⟨s16.h, by simp [hl], by simp [hl']⟩, eqArr_u l l' (by omega)]
 simp only [eqF1, n0, n1, n2, n3, t0, t1, t2, t3, o0, o1, o2, o3, if_false, p0, p1, p2, p3 _ _ _ _ hl, p3 _ _ _ _ hl', q0, q1, q2, q3, Option.bind_some, Option.map_some]
 congr 1
 unfold eqH
 rw [Bool.eq_iff_iff]
 simp
theorem eqA2_host (h h' : HostV) (h8 : h.l.length = 8) (h8' : h'.l.length = 8) : eqA2 Tryz.prog 29 (.agg h.cells) (.agg h'.cells) = some (hostE h h') := by
 unfold eqA2
 rw [Tryz.underlying29]
 simp only
 rw [if_pos stoodH]
 exact eqF1_hostP (ti := 3) (ts := 9) (tu := 25) (ta := 27) (te := 26) (by decide) (by decide) (by decide) (by decide) rfl rfl rfl rfl rfl rfl rfl rfl h8 h8'
theorem guardO : Tryz.prog.eqGuardType Tryz.prog.depth 37 = false := by kernel_rfl
theorem stoodO : Tryz.prog.stoodInHeld 37 = false := by kernel_rfl
theorem eqFs_orgP {P : Program} {ts th ti : TypeId} {o o' : OrgV} {f0 f1 f2 : Field}
  (n0 : f0.name = "_" ↔ False) (n1 : f1.name = "_" ↔ False) (n2 : f2.name = "_" ↔ False) (t0 : f0.type = ts) (t1 : f1.type = th) (t2 : f2.type = ti) (o0 : f0.offset = 0) (o1 : f1.offset = 1) (o2 : f2.offset = 12)
  [u0 : UndIs P ts .string] [u2 : UndIs P ti (.int .i64)] [a0 : AggIs P ts false] [a2 : AggIs P ti false] [a1 : AggIs P th true] [s1 : SizeIs P th 11] (hq : eqA2 P th (.agg o.h.cells) (.agg o'.h.cells) = some (hostE o.h o'.h))
  (h8 : o.h.l.length = 8) (h8' : o'.h.l.length = 8) : eqFs P o.cells o'.cells [f0, f1, f2] = some (eqO o o') := by
 have p0 : ∀ o : OrgV, partA P ts o.cells 0 = some (.str o.s) := fun o => by unfold partA; rw [a0.h]; rfl
 have p1 : ∀ o : OrgV, o.h.l.length = 8 → partA P th o.cells 1 = some (.agg o.h.cells) := fun o h => by
  unfold partA; rw [a1.h, s1.h]
  simp only
  rw [if_pos (by rw [o_len o h]; omega), (o_get o h).2]
 have p2 : ∀ o : OrgV, o.h.l.length = 8 → partA P ti o.cells 12 = some (.i o.p) := fun o h => by unfold partA; rw [a2.h]; exact (o_get o h).1
 have q0 : eqA2 P ts (.str o.s) (.str o'.s) = some (o.s == o'.s) := by
  unfold eqA2 eqA1; rw [u0.h]
  show some ((⟨⟨o.s⟩⟩ : ByteArray) == ⟨⟨o'.s⟩⟩) = _
  congr 1
  rw [Bool.eq_iff_iff, bytes_beq']
  simp
 have q2 : eqA2 P ti (.i o.p) (.i o'.p) = some (o.p == o'.p) := by unfold eqA2 eqA1; rw [u2.h]; simp
 simp only [eqFs, n0, n1, n2, t0, t1, t2, o0, o1, o2, if_false, p0, p1 _ h8, p1 _ h8', p2 _ h8, p2 _ h8', q0, hq, q2, Option.bind_some, Option.map_some]
 congr 1
 unfold eqO
 rw [Bool.eq_iff_iff]
 simp
theorem bin_orgP {P : Program} {t ts th ti : TypeId} {o o' : OrgV} {f0 f1 f2 : Field} (hg : P.eqGuardType P.depth t = false) (hsi : P.stoodInHeld t = false) (ht : P.underlying t = some (.struct #[f0, f1, f2]))
  (n0 : f0.name = "_" ↔ False) (n1 : f1.name = "_" ↔ False) (n2 : f2.name = "_" ↔ False) (t0 : f0.type = ts) (t1 : f1.type = th) (t2 : f2.type = ti) (o0 : f0.offset = 0) (o1 : f1.offset = 1) (o2 : f2.offset = 12)
  [u0 : UndIs P ts .string] [u2 : UndIs P ti (.int .i64)] [a0 : AggIs P ts false] [a2 : AggIs P ti false] [a1 : AggIs P th true] [s1 : SizeIs P th 11] (hq : eqA2 P th (.agg o.h.cells) (.agg o'.h.cells) = some (hostE o.h o'.h))
  (h8 : o.h.l.length = 8) (h8' : o'.h.l.length = 8) : bin P .eql t (.agg o.cells) (.agg o'.cells) = some (.b (eqO o o')) := by
 show binAgg P .eql t _ _ = _
 have h3 := eqFs_orgP (P := P) n0 n1 n2 t0 t1 t2 o0 o1 o2 hq h8 h8'
 unfold binAgg
 rw [if_pos hg, ht]
 simp only
 rw [if_pos hsi]
 show ((eqFs P _ _ [f0, f1, f2]).bind _) = _
 rw [h3]
 rfl
theorem bin_org (o o' : OrgV) (h8 : o.h.l.length = 8) (h8' : o'.h.l.length = 8) : bin Tryz.prog .eql 37 (.agg o.cells) (.agg o'.cells) = some (.b (eqO o o')) :=
 bin_orgP (ts := 9) (th := 29) (ti := 3) guardO stoodO Tryz.underlying37 (by decide) (by decide) (by decide) rfl rfl rfl rfl rfl rfl (eqA2_host o.h o'.h h8 h8') h8 h8'
end Hs
end Go.Proofs
