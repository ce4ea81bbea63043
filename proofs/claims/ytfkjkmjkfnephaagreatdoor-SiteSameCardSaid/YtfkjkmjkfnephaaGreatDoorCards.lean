/-
  DERIVED. GIVEN WITH THE SEED: THE CARDS: each row of YtfkjkmjkfnephaaGreatDoorRows.lean that lists a variable, with what it lists TIED to the program's text (the seventh form; the later family's looks); each row that meets fmt, with fmt's text TOLD by the authors' own Lean function (tested against real Go, not proved from fmt's source: count such statements apart). THE CARD IS WHAT COUNTS. Prove the row's statement (the work); the ties are given (YtfkjkmjkfnephaaGreatDoorTie.lean); close each card by the builder's one call (the guide's Derived/Test/ToyasCard.lean, 'card_holds'). Laid BY PROGRAM, IN A SANDBOX (cutbox-door.mjs). By AI agents, Wed Nov 11 2026. No macro, syntax, notation, axiom, sorry.
-/
import Derived.Test.YtfkjkmjkfnephaaGreatDoorRows
import GoSem.ClaimSeven
namespace Go.Proofs.YtfkjkmjkfnephaaGreatDoor
namespace Rows

/-- THE TIED CARD OF 'sprlaw11.SiteLabels'. -/
def siteLabelsCard : Claim7 := { stood := { row := siteLabelsRow, standIns := [], harness := (true, "4c4514e29e1f0aedcdf70ebcf894a85fff9394c4559d0082b342ab63e70ac9e1"), looks := false }, kinds := [], alts := [], laidByText := true, laidKinds := [.data, .pinned], laidTests := true, laidLooks := .later }
def SiteLabelsCardSaid : Prop := Claim7.holds Tryz.pinned (.plain (OpenSpec.ofChange siteLabelsSpec)) siteLabelsCard

/-- THE TIED CARD OF 'sprlaw11.SiteSame'. -/
def siteSameCard : Claim7 := { stood := { row := siteSameRow, standIns := [], harness := (true, "4c4514e29e1f0aedcdf70ebcf894a85fff9394c4559d0082b342ab63e70ac9e1"), looks := false }, kinds := [], alts := [], laidByText := true, laidKinds := [.data, .pinned], laidTests := true, laidLooks := .later }
def SiteSameCardSaid : Prop := Claim7.holds Tryz.pinned (.plain (OpenSpec.ofChange siteSameSpec)) siteSameCard

/-- THE SECOND FORM's CARD OF 'sprlaw11.SiteLabels'. -/
def siteLabelsUptoCard : Claim7 := { stood := { row := siteLabelsUptoRow, standIns := [], harness := (true, "4c4514e29e1f0aedcdf70ebcf894a85fff9394c4559d0082b342ab63e70ac9e1"), looks := false }, kinds := [], alts := [], laidByText := true, laidKinds := [.data, .pinned], laidTests := true, laidLooks := .later }
def SiteLabelsUptoCardSaid : Prop := Claim7.holds Tryz.pinned (.plain (OpenSpec.upto siteLabelsSpec)) siteLabelsUptoCard

/-- THE SECOND FORM's CARD OF 'sprlaw11.SiteSame'. -/
def siteSameUptoCard : Claim7 := { stood := { row := siteSameUptoRow, standIns := [], harness := (true, "4c4514e29e1f0aedcdf70ebcf894a85fff9394c4559d0082b342ab63e70ac9e1"), looks := false }, kinds := [], alts := [], laidByText := true, laidKinds := [.data, .pinned], laidTests := true, laidLooks := .later }
def SiteSameUptoCardSaid : Prop := Claim7.holds Tryz.pinned (.plain (OpenSpec.upto siteSameSpec)) siteSameUptoCard
end Rows
end Go.Proofs.YtfkjkmjkfnephaaGreatDoor
