/- What the configuration needs: each function is looked at ahead; slices.Insert by the shelf's contract. -/
import Derived.Test.YthdjjcjklamliaaPunyM
import Derived.Test.YthdjjcjklamliaaLvGlue
set_option linter.unusedVariables false
namespace Go.Proofs
open Go.Lv Go.Shelf
def insRenF (k : Nat) : Nat := if k = 21 then 24 else if k = 27 then 30 else if k = 28 then 31 else if k = 35 then 32 else if k = 39 then 33 else k
def insRenT (k : Nat) : Nat := if k = 3 then 3 else if k = 4 then 4 else if k = 22 then 22 else if k = 0 then 0 else k
def insRen : Ren := ⟨insRenF, insRenT, fun x => x⟩
theorem lays : Lays2.n21 Try.prog insRen where
  mixed := by kernel_rfl
  f21 := by show Try.prog.funcs[24]? = _; rw [Try.func24]; rfl
  f27 := by show Try.prog.funcs[30]? = _; rw [Try.func30]; rfl
  f28 := by show Try.prog.funcs[31]? = _; rw [Try.func31]; rfl
  f35 := by show Try.prog.funcs[32]? = _; rw [Try.func32]; rfl
  f39 := by show Try.prog.funcs[33]? = _; rw [Try.func33]; rfl
  t0 := Try.underlying0
  a0 := Try.isAgg0
  z0 := Try.sizeOf0
  v0 := Try.zeroValue0
  t3 := Try.underlying3
  a3 := Try.isAgg3
  z3 := Try.sizeOf3
  v3 := Try.zeroValue3
  t4 := Try.underlying4
  a4 := Try.isAgg4
  z4 := Try.sizeOf4
  v4 := Try.zeroValue4
  t22 := Try.underlying22
  a22 := Try.isAgg22
  z22 := Try.sizeOf22
  v22 := Try.zeroValue22
  i3 := by rw [show insRen.t 3 = 3 from rfl]; unfold Tables.info?; rw [Try.type3]; rfl
theorem chk_all : (okL.all fun f => chkFn Try.prog cfg f) = true := by kernel_rfl
theorem world : World0 Try.prog cfg where
  ext := by
    intro g s hs args H r H' h
    by_cases hg : g = 24
    · subst hg
      injection hs with hs; subst hs
      exact insert_ok lays h
    · simp [cfg, hg] at hs
  extc := by
    intro g h
    by_cases hg : g = 24
    · subst hg
      exact ⟨_, Try.func24, rfl, by decide⟩
    · simp [cfg, hg] at h
  chk := by
    intro g _ h
    exact List.all_eq_true.1 chk_all g (by simpa [cfg] using h)
  dyn := by intro g h; cases h
  mixed := by kernel_rfl
end Go.Proofs
