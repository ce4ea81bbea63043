/- A value semantics of the loaded code, its soundness, and walks through functions over it. -/
import Derived.Test.YtpbemfiedmfpiaaGreatDoorLvAll17
import Derived.Lib.LaidTab
import Derived.MakeChecks
set_option linter.unusedVariables false
set_option linter.unusedSimpArgs false
namespace Go.Lv
theorem laid_at {P : Program} {W : World} : ∀ (l : List (String × DataW Unit)) (ps : List MemPlace) (i : Nat) (name : String) (d : DataW Unit), DataW.LaidVars P W l ps → l[i]? = some (name, d) → ∃ rest ps', DataW.LaidVars P W ((name, d) :: rest) ps' := by
 intro l
 induction l with
 | nil => intro ps i name d _ hi; simp at hi
 | cons x l ih =>
  intro ps i name d h hi
  cases i with
  | zero =>
   simp at hi
   subst hi
   exact ⟨l, ps, h⟩
  | succ i =>
   obtain ⟨g, t, cs, fuel, p, q, h1, h2, h3, h4, h5, h6⟩ := h
   exact ih _ i name d h5 (by simpa using hi)
theorem tab_of {P : Program} {W : World} {name : String} {k : IntKind} {zs : List Int} {l : List (String × DataW Unit)} (i : Nat) {g : Nat} {t e : TypeId} {n : Nat} (h : laidMet P l W) (hi : l[i]? = some (name, Lib.tabData k zs))
  (hg : P.globalNamed name = some g) (hty : (P.globals[g]?).map (·.type) = some t) (ht : P.underlying t = some (.array n e)) (he : P.underlying e = some (.int k)) (hce : P.cellsOf e = 1) (hct : P.cellsOf t = n) : Lib.TabIs P W name k zs := by
 obtain ⟨ps, hl, _⟩ := h
 obtain ⟨rest, ps', hl'⟩ := laid_at l ps i name _ hl hi
 obtain ⟨g', t', cs, fuel, p, q, hg', ht', hvar, hd, _, _⟩ := hl'
 obtain rfl := Option.some.inj (hg.symm.trans hg')
 obtain rfl := Option.some.inj (hty.symm.trans ht')
 unfold Lib.TabIs
 rw [hvar, ← Lib.cells_of_tab ht he hce hct hd]
theorem deb_of {P : Program} {W : World} (h : ∀ g, P.globalNamed "math/bits.deBruijn64tab" = some g → Lib.TabIs P W "math/bits.deBruijn64tab" .u8 (Lib.deBruijn64tab.map fun (n : Nat) => (n : Int))) :
  ∀ g, P.globalNamed "math/bits.deBruijn64tab" = some g → ∀ j, j < Lib.deBruijn64tab.length → W.cell? ⟨g, j, none⟩ = some (.int .u8 (Lib.deBruijn64tab.getD j 0)) := by
 intro g hg j hj
 have := (h g hg).cell hg j (by simpa using hj)
 rw [this]
 congr 2
 simp only [xgD, List.getElem?_map, xgE hj, Option.map_some, Option.getD_some]
end Go.Lv
