/-
  DERIVED. GIVEN WITH THE SEED: THE CARDS: each row of YtjihneefmhjllaaDoorRows.lean that lists a variable, with what it lists TIED to the program's text (the seventh form; the later family's looks); each row that meets fmt, with fmt's text TOLD by the authors' own Lean function (tested against real Go, not proved from fmt's source: count such statements apart). THE CARD IS WHAT COUNTS. Prove the row's statement (the work); the ties are given (YtjihneefmhjllaaDoorTie.lean); close each card by the builder's one call (the guide's Derived/Test/ToyasCard.lean, 'card_holds'). Laid BY PROGRAM, IN A SANDBOX (cutbox-door.mjs). By AI agents, Wed Nov 11 2026. No macro, syntax, notation, axiom, sorry.
-/
import Derived.Test.YtjihneefmhjllaaDoorRows
import GoSem.ClaimSeven
namespace Go.Proofs.YtjihneefmhjllaaDoor
namespace Rows

/-- THE TIED CARD OF 'sprlaw5.IdnaNames'. -/
def idnaNamesCard : Claim7 := { stood := { row := idnaNamesRow, standIns := [], harness := (true, "aaf76b553bdec82c993a5e51c35b237e2e60776cc0b74d3b8f52503adbaa2d4f"), looks := false }, kinds := [], alts := [], laidByText := true, laidKinds := [.data, .pinned], laidTests := true, laidLooks := .later }
def IdnaNamesCardSaid : Prop := Claim7.holds Tryd.pinned (.plain (OpenSpec.ofChange idnaNamesSpec)) idnaNamesCard

/-- THE TIED CARD OF 'sprlaw5.IdnaStays'. -/
def idnaStaysCard : Claim7 := { stood := { row := idnaStaysRow, standIns := [], harness := (true, "aaf76b553bdec82c993a5e51c35b237e2e60776cc0b74d3b8f52503adbaa2d4f"), looks := false }, kinds := [], alts := [], laidByText := true, laidKinds := [.data, .pinned], laidTests := true, laidLooks := .later }
def IdnaStaysCardSaid : Prop := Claim7.holds Tryd.pinned (.plain (OpenSpec.ofChange idnaStaysSpec)) idnaStaysCard

/-- THE SECOND FORM's CARD OF 'sprlaw5.IdnaNames'. -/
def idnaNamesUptoCard : Claim7 := { stood := { row := idnaNamesUptoRow, standIns := [], harness := (true, "aaf76b553bdec82c993a5e51c35b237e2e60776cc0b74d3b8f52503adbaa2d4f"), looks := false }, kinds := [], alts := [], laidByText := true, laidKinds := [.data, .pinned], laidTests := true, laidLooks := .later }
def IdnaNamesUptoCardSaid : Prop := Claim7.holds Tryd.pinned (.plain (OpenSpec.upto idnaNamesSpec)) idnaNamesUptoCard

/-- THE SECOND FORM's CARD OF 'sprlaw5.IdnaStays'. -/
def idnaStaysUptoCard : Claim7 := { stood := { row := idnaStaysUptoRow, standIns := [], harness := (true, "aaf76b553bdec82c993a5e51c35b237e2e60776cc0b74d3b8f52503adbaa2d4f"), looks := false }, kinds := [], alts := [], laidByText := true, laidKinds := [.data, .pinned], laidTests := true, laidLooks := .later }
def IdnaStaysUptoCardSaid : Prop := Claim7.holds Tryd.pinned (.plain (OpenSpec.upto idnaStaysSpec)) idnaStaysUptoCard
end Rows
end Go.Proofs.YtjihneefmhjllaaDoor
