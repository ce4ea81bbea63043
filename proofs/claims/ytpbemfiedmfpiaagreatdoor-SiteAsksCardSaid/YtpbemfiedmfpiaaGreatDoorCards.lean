/-
  DERIVED. GIVEN WITH THE SEED: THE CARDS: each row of YtpbemfiedmfpiaaGreatDoorRows.lean that lists a variable, with what it lists TIED to the program's text (the seventh form; the later family's looks); each row that meets fmt, with fmt's text TOLD by the authors' own Lean function (tested against real Go, not proved from fmt's source: count such statements apart). THE CARD IS WHAT COUNTS. Prove the row's statement (the work); the ties are given (YtpbemfiedmfpiaaGreatDoorTie.lean); close each card by the builder's one call (the guide's Derived/Test/ToyasCard.lean, 'card_holds'). Laid BY PROGRAM, IN A SANDBOX (cutbox-door.mjs). By AI agents, Wed Nov 11 2026. No macro, syntax, notation, axiom, sorry.
-/
import Derived.Test.YtpbemfiedmfpiaaGreatDoorRows
import GoSem.ClaimSeven
namespace Go.Proofs.YtpbemfiedmfpiaaGreatDoor
namespace Rows

/-- THE TIED CARD OF 'sprlaw9.UrlReads'. -/
def urlReadsCard : Claim7 := { stood := { row := urlReadsRow, standIns := [], harness := (true, "9db3eb2658bc24ba2fd39c99066c9a3e0bf5f1b52e7211737f0ccbd861bf3170"), looks := false }, kinds := [], alts := [], laidByText := true, laidKinds := [.data, .data, .data, .data, .pinned], laidTests := true, laidLooks := .later }
def UrlReadsCardSaid : Prop := Claim7.holds Tryz.pinned (.plain (OpenSpec.ofChange urlReadsSpec)) urlReadsCard

/-- THE TIED CARD OF 'sprlaw9.UrlJoins'. -/
def urlJoinsCard : Claim7 := { stood := { row := urlJoinsRow, standIns := [], harness := (true, "9db3eb2658bc24ba2fd39c99066c9a3e0bf5f1b52e7211737f0ccbd861bf3170"), looks := false }, kinds := [], alts := [], laidByText := true, laidKinds := [.data, .data, .data, .data, .pinned], laidTests := true, laidLooks := .later }
def UrlJoinsCardSaid : Prop := Claim7.holds Tryz.pinned (.plain (OpenSpec.ofChange urlJoinsSpec)) urlJoinsCard

/-- THE TIED CARD OF 'sprlaw9.UrlBack'. -/
def urlBackCard : Claim7 := { stood := { row := urlBackRow, standIns := [], harness := (true, "9db3eb2658bc24ba2fd39c99066c9a3e0bf5f1b52e7211737f0ccbd861bf3170"), looks := false }, kinds := [], alts := [], laidByText := true, laidKinds := [.data, .data, .data, .data, .pinned], laidTests := true, laidLooks := .later }
def UrlBackCardSaid : Prop := Claim7.holds Tryz.pinned (.plain (OpenSpec.ofChange urlBackSpec)) urlBackCard

/-- THE TIED CARD OF 'sprlaw9.UrlParts'. -/
def urlPartsCard : Claim7 := { stood := { row := urlPartsRow, standIns := [], harness := (true, "9db3eb2658bc24ba2fd39c99066c9a3e0bf5f1b52e7211737f0ccbd861bf3170"), looks := false }, kinds := [], alts := [], laidByText := true, laidKinds := [.data, .data, .data, .data, .pinned], laidTests := true, laidLooks := .later }
def UrlPartsCardSaid : Prop := Claim7.holds Tryz.pinned (.plain (OpenSpec.ofChange urlPartsSpec)) urlPartsCard

/-- THE TIED CARD OF 'sprlaw9.UrlSlashes'. -/
def urlSlashesCard : Claim7 := { stood := { row := urlSlashesRow, standIns := [], harness := (true, "9db3eb2658bc24ba2fd39c99066c9a3e0bf5f1b52e7211737f0ccbd861bf3170"), looks := false }, kinds := [], alts := [], laidByText := true, laidKinds := [.data, .data, .data, .data, .pinned], laidTests := true, laidLooks := .later }
def UrlSlashesCardSaid : Prop := Claim7.holds Tryz.pinned (.plain (OpenSpec.ofChange urlSlashesSpec)) urlSlashesCard

/-- THE TIED CARD OF 'sprlaw9.UrlPorts'. -/
def urlPortsCard : Claim7 := { stood := { row := urlPortsRow, standIns := [], harness := (true, "9db3eb2658bc24ba2fd39c99066c9a3e0bf5f1b52e7211737f0ccbd861bf3170"), looks := false }, kinds := [], alts := [], laidByText := true, laidKinds := [.data, .data, .data, .data, .pinned], laidTests := true, laidLooks := .later }
def UrlPortsCardSaid : Prop := Claim7.holds Tryz.pinned (.plain (OpenSpec.ofChange urlPortsSpec)) urlPortsCard

/-- THE TIED CARD OF 'sprlaw9.UrlClean'. -/
def urlCleanCard : Claim7 := { stood := { row := urlCleanRow, standIns := [], harness := (true, "9db3eb2658bc24ba2fd39c99066c9a3e0bf5f1b52e7211737f0ccbd861bf3170"), looks := false }, kinds := [], alts := [], laidByText := true, laidKinds := [.data, .data, .data, .data, .pinned], laidTests := true, laidLooks := .later }
def UrlCleanCardSaid : Prop := Claim7.holds Tryz.pinned (.plain (OpenSpec.ofChange urlCleanSpec)) urlCleanCard

/-- THE TIED CARD OF 'sprlaw9.UrlPrints'. -/
def urlPrintsCard : Claim7 := { stood := { row := urlPrintsRow, standIns := [], harness := (true, "9db3eb2658bc24ba2fd39c99066c9a3e0bf5f1b52e7211737f0ccbd861bf3170"), looks := false }, kinds := [], alts := [], laidByText := true, laidKinds := [.data, .data, .data, .data, .pinned], laidTests := true, laidLooks := .later }
def UrlPrintsCardSaid : Prop := Claim7.holds Tryz.pinned (.plain (OpenSpec.ofChange urlPrintsSpec)) urlPrintsCard

/-- THE TIED CARD OF 'sprlaw11.SiteTexts'. -/
def siteTextsCard : Claim7 := { stood := { row := siteTextsRow, standIns := [], harness := (true, "9db3eb2658bc24ba2fd39c99066c9a3e0bf5f1b52e7211737f0ccbd861bf3170"), looks := false }, kinds := [], alts := [], laidByText := true, laidKinds := [.data, .data, .data, .data, .pinned], laidTests := true, laidLooks := .later }
def SiteTextsCardSaid : Prop := Claim7.holds Tryz.pinned (.plain (OpenSpec.ofChange siteTextsSpec)) siteTextsCard

/-- THE TIED CARD OF 'sprlaw11.SiteAsks'. -/
def siteAsksCard : Claim7 := { stood := { row := siteAsksRow, standIns := [], harness := (true, "9db3eb2658bc24ba2fd39c99066c9a3e0bf5f1b52e7211737f0ccbd861bf3170"), looks := false }, kinds := [], alts := [], laidByText := true, laidKinds := [.data, .data, .data, .data, .pinned], laidTests := true, laidLooks := .later }
def SiteAsksCardSaid : Prop := Claim7.holds Tryz.pinned (.plain (OpenSpec.ofChange siteAsksSpec)) siteAsksCard

/-- THE SECOND FORM's CARD OF 'sprlaw9.UrlReads'. -/
def urlReadsUptoCard : Claim7 := { stood := { row := urlReadsUptoRow, standIns := [], harness := (true, "9db3eb2658bc24ba2fd39c99066c9a3e0bf5f1b52e7211737f0ccbd861bf3170"), looks := false }, kinds := [], alts := [], laidByText := true, laidKinds := [.data, .data, .data, .data, .pinned], laidTests := true, laidLooks := .later }
def UrlReadsUptoCardSaid : Prop := Claim7.holds Tryz.pinned (.plain (OpenSpec.upto urlReadsSpec)) urlReadsUptoCard

/-- THE SECOND FORM's CARD OF 'sprlaw9.UrlJoins'. -/
def urlJoinsUptoCard : Claim7 := { stood := { row := urlJoinsUptoRow, standIns := [], harness := (true, "9db3eb2658bc24ba2fd39c99066c9a3e0bf5f1b52e7211737f0ccbd861bf3170"), looks := false }, kinds := [], alts := [], laidByText := true, laidKinds := [.data, .data, .data, .data, .pinned], laidTests := true, laidLooks := .later }
def UrlJoinsUptoCardSaid : Prop := Claim7.holds Tryz.pinned (.plain (OpenSpec.upto urlJoinsSpec)) urlJoinsUptoCard

/-- THE SECOND FORM's CARD OF 'sprlaw9.UrlBack'. -/
def urlBackUptoCard : Claim7 := { stood := { row := urlBackUptoRow, standIns := [], harness := (true, "9db3eb2658bc24ba2fd39c99066c9a3e0bf5f1b52e7211737f0ccbd861bf3170"), looks := false }, kinds := [], alts := [], laidByText := true, laidKinds := [.data, .data, .data, .data, .pinned], laidTests := true, laidLooks := .later }
def UrlBackUptoCardSaid : Prop := Claim7.holds Tryz.pinned (.plain (OpenSpec.upto urlBackSpec)) urlBackUptoCard

/-- THE SECOND FORM's CARD OF 'sprlaw9.UrlParts'. -/
def urlPartsUptoCard : Claim7 := { stood := { row := urlPartsUptoRow, standIns := [], harness := (true, "9db3eb2658bc24ba2fd39c99066c9a3e0bf5f1b52e7211737f0ccbd861bf3170"), looks := false }, kinds := [], alts := [], laidByText := true, laidKinds := [.data, .data, .data, .data, .pinned], laidTests := true, laidLooks := .later }
def UrlPartsUptoCardSaid : Prop := Claim7.holds Tryz.pinned (.plain (OpenSpec.upto urlPartsSpec)) urlPartsUptoCard

/-- THE SECOND FORM's CARD OF 'sprlaw9.UrlSlashes'. -/
def urlSlashesUptoCard : Claim7 := { stood := { row := urlSlashesUptoRow, standIns := [], harness := (true, "9db3eb2658bc24ba2fd39c99066c9a3e0bf5f1b52e7211737f0ccbd861bf3170"), looks := false }, kinds := [], alts := [], laidByText := true, laidKinds := [.data, .data, .data, .data, .pinned], laidTests := true, laidLooks := .later }
def UrlSlashesUptoCardSaid : Prop := Claim7.holds Tryz.pinned (.plain (OpenSpec.upto urlSlashesSpec)) urlSlashesUptoCard

/-- THE SECOND FORM's CARD OF 'sprlaw9.UrlPorts'. -/
def urlPortsUptoCard : Claim7 := { stood := { row := urlPortsUptoRow, standIns := [], harness := (true, "9db3eb2658bc24ba2fd39c99066c9a3e0bf5f1b52e7211737f0ccbd861bf3170"), looks := false }, kinds := [], alts := [], laidByText := true, laidKinds := [.data, .data, .data, .data, .pinned], laidTests := true, laidLooks := .later }
def UrlPortsUptoCardSaid : Prop := Claim7.holds Tryz.pinned (.plain (OpenSpec.upto urlPortsSpec)) urlPortsUptoCard

/-- THE SECOND FORM's CARD OF 'sprlaw9.UrlClean'. -/
def urlCleanUptoCard : Claim7 := { stood := { row := urlCleanUptoRow, standIns := [], harness := (true, "9db3eb2658bc24ba2fd39c99066c9a3e0bf5f1b52e7211737f0ccbd861bf3170"), looks := false }, kinds := [], alts := [], laidByText := true, laidKinds := [.data, .data, .data, .data, .pinned], laidTests := true, laidLooks := .later }
def UrlCleanUptoCardSaid : Prop := Claim7.holds Tryz.pinned (.plain (OpenSpec.upto urlCleanSpec)) urlCleanUptoCard

/-- THE SECOND FORM's CARD OF 'sprlaw9.UrlPrints'. -/
def urlPrintsUptoCard : Claim7 := { stood := { row := urlPrintsUptoRow, standIns := [], harness := (true, "9db3eb2658bc24ba2fd39c99066c9a3e0bf5f1b52e7211737f0ccbd861bf3170"), looks := false }, kinds := [], alts := [], laidByText := true, laidKinds := [.data, .data, .data, .data, .pinned], laidTests := true, laidLooks := .later }
def UrlPrintsUptoCardSaid : Prop := Claim7.holds Tryz.pinned (.plain (OpenSpec.upto urlPrintsSpec)) urlPrintsUptoCard

/-- THE SECOND FORM's CARD OF 'sprlaw11.SiteTexts'. -/
def siteTextsUptoCard : Claim7 := { stood := { row := siteTextsUptoRow, standIns := [], harness := (true, "9db3eb2658bc24ba2fd39c99066c9a3e0bf5f1b52e7211737f0ccbd861bf3170"), looks := false }, kinds := [], alts := [], laidByText := true, laidKinds := [.data, .data, .data, .data, .pinned], laidTests := true, laidLooks := .later }
def SiteTextsUptoCardSaid : Prop := Claim7.holds Tryz.pinned (.plain (OpenSpec.upto siteTextsSpec)) siteTextsUptoCard

/-- THE SECOND FORM's CARD OF 'sprlaw11.SiteAsks'. -/
def siteAsksUptoCard : Claim7 := { stood := { row := siteAsksUptoRow, standIns := [], harness := (true, "9db3eb2658bc24ba2fd39c99066c9a3e0bf5f1b52e7211737f0ccbd861bf3170"), looks := false }, kinds := [], alts := [], laidByText := true, laidKinds := [.data, .data, .data, .data, .pinned], laidTests := true, laidLooks := .later }
def SiteAsksUptoCardSaid : Prop := Claim7.holds Tryz.pinned (.plain (OpenSpec.upto siteAsksSpec)) siteAsksUptoCard
end Rows
end Go.Proofs.YtpbemfiedmfpiaaGreatDoor
