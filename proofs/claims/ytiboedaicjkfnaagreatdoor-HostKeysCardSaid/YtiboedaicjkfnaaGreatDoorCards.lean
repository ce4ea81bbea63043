/-
  DERIVED. GIVEN WITH THE SEED: THE CARDS: each row of YtiboedaicjkfnaaGreatDoorRows.lean that lists a variable, with what it lists TIED to the program's text (the seventh form; the later family's looks); each row that meets fmt, with fmt's text TOLD by the authors' own Lean function (tested against real Go, not proved from fmt's source: count such statements apart). THE CARD IS WHAT COUNTS. Prove the row's statement (the work); the ties are given (YtiboedaicjkfnaaGreatDoorTie.lean); close each card by the builder's one call (the guide's Derived/Test/ToyasCard.lean, 'card_holds'). Laid BY PROGRAM, IN A SANDBOX (cutbox-door.mjs). By AI agents, Wed Nov 11 2026. No macro, syntax, notation, axiom, sorry.
-/
import Derived.Test.YtiboedaicjkfnaaGreatDoorRows
import GoSem.ClaimSeven
namespace Go.Proofs.YtiboedaicjkfnaaGreatDoor
namespace Rows

/-- THE TIED CARD OF 'sprlaw8.HostNumbers'. -/
def hostNumbersCard : Claim7 := { stood := { row := hostNumbersRow, standIns := [], harness := (true, "929d6477654ed666971c14faf8ee05132a216b73d0c1d63c3306e66e4ca79067"), looks := false }, kinds := [], alts := [], laidByText := true, laidKinds := [.data, .data, .data, .data, .pinned], laidTests := true, laidLooks := .later }
def HostNumbersCardSaid : Prop := Claim7.holds Tryz.pinned (.plain (OpenSpec.ofChange hostNumbersSpec)) hostNumbersCard

/-- THE TIED CARD OF 'sprlaw8.HostPrints'. -/
def hostPrintsCard : Claim7 := { stood := { row := hostPrintsRow, standIns := [], harness := (true, "929d6477654ed666971c14faf8ee05132a216b73d0c1d63c3306e66e4ca79067"), looks := false }, kinds := [], alts := [], laidByText := true, laidKinds := [.data, .data, .data, .data, .pinned], laidTests := true, laidLooks := .later }
def HostPrintsCardSaid : Prop := Claim7.holds Tryz.pinned (.plain (OpenSpec.ofChange hostPrintsSpec)) hostPrintsCard

/-- THE TIED CARD OF 'sprlaw8.HostBack'. -/
def hostBackCard : Claim7 := { stood := { row := hostBackRow, standIns := [], harness := (true, "929d6477654ed666971c14faf8ee05132a216b73d0c1d63c3306e66e4ca79067"), looks := false }, kinds := [], alts := [], laidByText := true, laidKinds := [.data, .data, .data, .data, .pinned], laidTests := true, laidLooks := .later }
def HostBackCardSaid : Prop := Claim7.holds Tryz.pinned (.plain (OpenSpec.ofChange hostBackSpec)) hostBackCard

/-- THE TIED CARD OF 'sprlaw8.HostKeys'. -/
def hostKeysCard : Claim7 := { stood := { row := hostKeysRow, standIns := [], harness := (true, "929d6477654ed666971c14faf8ee05132a216b73d0c1d63c3306e66e4ca79067"), looks := false }, kinds := [], alts := [], laidByText := true, laidKinds := [.data, .data, .data, .data, .pinned], laidTests := true, laidLooks := .later }
def HostKeysCardSaid : Prop := Claim7.holds Tryz.pinned (.plain (OpenSpec.ofChange hostKeysSpec)) hostKeysCard

/-- THE SECOND FORM's CARD OF 'sprlaw8.HostNumbers'. -/
def hostNumbersUptoCard : Claim7 := { stood := { row := hostNumbersUptoRow, standIns := [], harness := (true, "929d6477654ed666971c14faf8ee05132a216b73d0c1d63c3306e66e4ca79067"), looks := false }, kinds := [], alts := [], laidByText := true, laidKinds := [.data, .data, .data, .data, .pinned], laidTests := true, laidLooks := .later }
def HostNumbersUptoCardSaid : Prop := Claim7.holds Tryz.pinned (.plain (OpenSpec.upto hostNumbersSpec)) hostNumbersUptoCard

/-- THE SECOND FORM's CARD OF 'sprlaw8.HostPrints'. -/
def hostPrintsUptoCard : Claim7 := { stood := { row := hostPrintsUptoRow, standIns := [], harness := (true, "929d6477654ed666971c14faf8ee05132a216b73d0c1d63c3306e66e4ca79067"), looks := false }, kinds := [], alts := [], laidByText := true, laidKinds := [.data, .data, .data, .data, .pinned], laidTests := true, laidLooks := .later }
def HostPrintsUptoCardSaid : Prop := Claim7.holds Tryz.pinned (.plain (OpenSpec.upto hostPrintsSpec)) hostPrintsUptoCard

/-- THE SECOND FORM's CARD OF 'sprlaw8.HostBack'. -/
def hostBackUptoCard : Claim7 := { stood := { row := hostBackUptoRow, standIns := [], harness := (true, "929d6477654ed666971c14faf8ee05132a216b73d0c1d63c3306e66e4ca79067"), looks := false }, kinds := [], alts := [], laidByText := true, laidKinds := [.data, .data, .data, .data, .pinned], laidTests := true, laidLooks := .later }
def HostBackUptoCardSaid : Prop := Claim7.holds Tryz.pinned (.plain (OpenSpec.upto hostBackSpec)) hostBackUptoCard

/-- THE SECOND FORM's CARD OF 'sprlaw8.HostKeys'. -/
def hostKeysUptoCard : Claim7 := { stood := { row := hostKeysUptoRow, standIns := [], harness := (true, "929d6477654ed666971c14faf8ee05132a216b73d0c1d63c3306e66e4ca79067"), looks := false }, kinds := [], alts := [], laidByText := true, laidKinds := [.data, .data, .data, .data, .pinned], laidTests := true, laidLooks := .later }
def HostKeysUptoCardSaid : Prop := Claim7.holds Tryz.pinned (.plain (OpenSpec.upto hostKeysSpec)) hostKeysUptoCard
end Rows
end Go.Proofs.YtiboedaicjkfnaaGreatDoor
