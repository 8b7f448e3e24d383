/-
  DERIVED. GIVEN WITH THE SEED: THE CARDS: each row of YtpmlmpibpmoclaaGreatDoorRows.lean that lists a variable, with what it lists TIED to the program's text (the seventh form; the later family's looks); each row that meets fmt, with fmt's text TOLD by the authors' own Lean function (tested against real Go, not proved from fmt's source: count such statements apart). THE CARD IS WHAT COUNTS. Prove the row's statement (the work); the ties are given (YtpmlmpibpmoclaaGreatDoorTie.lean); close each card by the builder's one call (the guide's Derived/Test/ToyasCard.lean, 'card_holds'). Laid BY PROGRAM, IN A SANDBOX (cutbox-door.mjs). By AI agents, Wed Nov 11 2026. No macro, syntax, notation, axiom, sorry.
-/
import Derived.Test.YtpmlmpibpmoclaaGreatDoorRows
import GoSem.ClaimSeven
namespace Go.Proofs.YtpmlmpibpmoclaaGreatDoor
namespace Rows

/-- THE TIED CARD OF 'gussetlaw08.ShowApart'. -/
def showApartCard : Claim7 := { stood := { row := showApartRow, standIns := [], harness := (true, "67fafc0311d92508f26f9d632e9269f8edf017efb2ae09c8188ea1fd1352d8f3"), looks := true }, kinds := [], alts := [], laidByText := true, laidKinds := [.data, .data, .data, .data, .pinned], laidTests := true, laidLooks := .later }
def ShowApartCardSaid : Prop := Claim7.holds Tryz.pinned (.plain (OpenSpec.ofChange showApartSpec)) showApartCard

/-- THE TIED CARD OF 'gussetlaw08.ShowParts'. -/
def showPartsCard : Claim7 := { stood := { row := showPartsRow, standIns := [], harness := (true, "67fafc0311d92508f26f9d632e9269f8edf017efb2ae09c8188ea1fd1352d8f3"), looks := true }, kinds := [], alts := [], laidByText := true, laidKinds := [.data, .data, .data, .data, .pinned], laidTests := true, laidLooks := .later }
def ShowPartsCardSaid : Prop := Claim7.holds Tryz.pinned (.plain (OpenSpec.ofChange showPartsSpec)) showPartsCard

/-- THE TIED CARD OF 'gussetlaw08.ShowSources'. -/
def showSourcesCard : Claim7 := { stood := { row := showSourcesRow, standIns := [], harness := (true, "67fafc0311d92508f26f9d632e9269f8edf017efb2ae09c8188ea1fd1352d8f3"), looks := true }, kinds := [], alts := [], laidByText := true, laidKinds := [.data, .data, .data, .data, .sentinel, .sentinel, .pinned], laidTests := true, laidLooks := .later }
def ShowSourcesCardSaid : Prop := Claim7.holds Tryz.pinned (.plain (OpenSpec.ofChange showSourcesSpec)) showSourcesCard

/-- THE TIED CARD OF 'gussetlaw08.ShowModules'. -/
def showModulesCard : Claim7 := { stood := { row := showModulesRow, standIns := [], harness := (true, "67fafc0311d92508f26f9d632e9269f8edf017efb2ae09c8188ea1fd1352d8f3"), looks := true }, kinds := [], alts := [], laidByText := true, laidKinds := [.data, .data, .data, .data, .sentinel, .sentinel, .pinned], laidTests := true, laidLooks := .later }
def ShowModulesCardSaid : Prop := Claim7.holds Tryz.pinned (.plain (OpenSpec.ofChange showModulesSpec)) showModulesCard

/-- THE SECOND FORM's CARD OF 'gussetlaw08.ShowApart'. -/
def showApartUptoCard : Claim7 := { stood := { row := showApartUptoRow, standIns := [], harness := (true, "67fafc0311d92508f26f9d632e9269f8edf017efb2ae09c8188ea1fd1352d8f3"), looks := true }, kinds := [], alts := [], laidByText := true, laidKinds := [.data, .data, .data, .data, .pinned], laidTests := true, laidLooks := .later }
def ShowApartUptoCardSaid : Prop := Claim7.holds Tryz.pinned (.plain (OpenSpec.upto showApartSpec)) showApartUptoCard

/-- THE SECOND FORM's CARD OF 'gussetlaw08.ShowParts'. -/
def showPartsUptoCard : Claim7 := { stood := { row := showPartsUptoRow, standIns := [], harness := (true, "67fafc0311d92508f26f9d632e9269f8edf017efb2ae09c8188ea1fd1352d8f3"), looks := true }, kinds := [], alts := [], laidByText := true, laidKinds := [.data, .data, .data, .data, .pinned], laidTests := true, laidLooks := .later }
def ShowPartsUptoCardSaid : Prop := Claim7.holds Tryz.pinned (.plain (OpenSpec.upto showPartsSpec)) showPartsUptoCard

/-- THE SECOND FORM's CARD OF 'gussetlaw08.ShowSources'. -/
def showSourcesUptoCard : Claim7 := { stood := { row := showSourcesUptoRow, standIns := [], harness := (true, "67fafc0311d92508f26f9d632e9269f8edf017efb2ae09c8188ea1fd1352d8f3"), looks := true }, kinds := [], alts := [], laidByText := true, laidKinds := [.data, .data, .data, .data, .sentinel, .sentinel, .pinned], laidTests := true, laidLooks := .later }
def ShowSourcesUptoCardSaid : Prop := Claim7.holds Tryz.pinned (.plain (OpenSpec.upto showSourcesSpec)) showSourcesUptoCard

/-- THE SECOND FORM's CARD OF 'gussetlaw08.ShowModules'. -/
def showModulesUptoCard : Claim7 := { stood := { row := showModulesUptoRow, standIns := [], harness := (true, "67fafc0311d92508f26f9d632e9269f8edf017efb2ae09c8188ea1fd1352d8f3"), looks := true }, kinds := [], alts := [], laidByText := true, laidKinds := [.data, .data, .data, .data, .sentinel, .sentinel, .pinned], laidTests := true, laidLooks := .later }
def ShowModulesUptoCardSaid : Prop := Claim7.holds Tryz.pinned (.plain (OpenSpec.upto showModulesSpec)) showModulesUptoCard
end Rows
end Go.Proofs.YtpmlmpibpmoclaaGreatDoor
