/-
  DERIVED. GIVEN WITH THE SEED: THE CARDS: each row of YtkbfklckeloamaaGreatDoorRows.lean that lists a variable, with what it lists TIED to the program's text (the seventh form; the later family's looks); each row that meets fmt, with fmt's text TOLD by the authors' own Lean function (tested against real Go, not proved from fmt's source: count such statements apart). THE CARD IS WHAT COUNTS. Prove the row's statement (the work); the ties are given (YtkbfklckeloamaaGreatDoorTie.lean); close each card by the builder's one call (the guide's Derived/Test/ToyasCard.lean, 'card_holds'). Laid BY PROGRAM, IN A SANDBOX (cutbox-door.mjs). By AI agents, Wed Nov 11 2026. No macro, syntax, notation, axiom, sorry.
-/
import Derived.Test.YtkbfklckeloamaaGreatDoorRows
import GoSem.ClaimSeven
namespace Go.Proofs.YtkbfklckeloamaaGreatDoor
namespace Rows

/-- THE TIED CARD OF 'sprlaw8.HostTexts'. -/
def hostTextsCard : Claim7 := { stood := { row := hostTextsRow, standIns := [], harness := (true, "c74e756d7f500b2dbe800d9101900c412c83145915a823eae835d1b9a88e9ad0"), looks := false }, kinds := [], alts := [], laidByText := true, laidKinds := [.data, .pinned], laidTests := true, laidLooks := .later }
def HostTextsCardSaid : Prop := Claim7.holds Tryz.pinned (.plain (OpenSpec.ofChange hostTextsSpec)) hostTextsCard

/-- THE SECOND FORM's CARD OF 'sprlaw8.HostTexts'. -/
def hostTextsUptoCard : Claim7 := { stood := { row := hostTextsUptoRow, standIns := [], harness := (true, "c74e756d7f500b2dbe800d9101900c412c83145915a823eae835d1b9a88e9ad0"), looks := false }, kinds := [], alts := [], laidByText := true, laidKinds := [.data, .pinned], laidTests := true, laidLooks := .later }
def HostTextsUptoCardSaid : Prop := Claim7.holds Tryz.pinned (.plain (OpenSpec.upto hostTextsSpec)) hostTextsUptoCard
end Rows
end Go.Proofs.YtkbfklckeloamaaGreatDoor
