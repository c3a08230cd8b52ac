/-
  DERIVED. GIVEN WITH THE SEED: THE CARDS: each row of YtglfoofclicfpaaGreatDoorRows.lean that lists a variable, with what it lists TIED to the program's text (the seventh form; the later family's looks); each row that meets fmt, with fmt's text TOLD by the authors' own Lean function (tested against real Go, not proved from fmt's source: count such statements apart). THE CARD IS WHAT COUNTS. Prove the row's statement (the work); the ties are given (YtglfoofclicfpaaGreatDoorTie.lean); close each card by the builder's one call (the guide's Derived/Test/ToyasCard.lean, 'card_holds'). Laid BY PROGRAM, IN A SANDBOX (cutbox-door.mjs). By AI agents, Wed Nov 11 2026. No macro, syntax, notation, axiom, sorry.
-/
import Derived.Test.YtglfoofclicfpaaGreatDoorRows
import GoSem.ClaimSeven
namespace Go.Proofs.YtglfoofclicfpaaGreatDoor
namespace Rows

/-- THE TIED CARD OF 'quirelaw14.ViewParts'. -/
def viewPartsCard : Claim7 := { stood := { row := viewPartsRow, standIns := [], harness := (true, "e6ad4869edbd4e064b309b53e6f20c93ff49f43cffd1cdadcf64f5d9de2eafc5"), looks := false }, kinds := [], alts := [], laidByText := true, laidKinds := [.data, .data, .data, .data, .pinned], laidTests := true, laidLooks := .later }
def ViewPartsCardSaid : Prop := Claim7.holds Tryz.pinned (.plain (OpenSpec.ofChange viewPartsSpec)) viewPartsCard

/-- THE TIED CARD OF 'quirelaw14.ViewCuts'. -/
def viewCutsCard : Claim7 := { stood := { row := viewCutsRow, standIns := [], harness := (true, "e6ad4869edbd4e064b309b53e6f20c93ff49f43cffd1cdadcf64f5d9de2eafc5"), looks := false }, kinds := [], alts := [], laidByText := true, laidKinds := [.data, .data, .data, .data, .pinned], laidTests := true, laidLooks := .later }
def ViewCutsCardSaid : Prop := Claim7.holds Tryz.pinned (.plain (OpenSpec.ofChange viewCutsSpec)) viewCutsCard

/-- THE TIED CARD OF 'quirelaw14.ViewDiff'. -/
def viewDiffCard : Claim7 := { stood := { row := viewDiffRow, standIns := [], harness := (true, "e6ad4869edbd4e064b309b53e6f20c93ff49f43cffd1cdadcf64f5d9de2eafc5"), looks := false }, kinds := [], alts := [], laidByText := true, laidKinds := [.data, .data, .data, .data, .pinned], laidTests := true, laidLooks := .later }
def ViewDiffCardSaid : Prop := Claim7.holds Tryz.pinned (.plain (OpenSpec.ofChange viewDiffSpec)) viewDiffCard

/-- THE TIED CARD OF 'quirelaw14.ViewLeast'. -/
def viewLeastCard : Claim7 := { stood := { row := viewLeastRow, standIns := [], harness := (true, "e6ad4869edbd4e064b309b53e6f20c93ff49f43cffd1cdadcf64f5d9de2eafc5"), looks := false }, kinds := [], alts := [], laidByText := true, laidKinds := [.data, .data, .data, .data, .pinned], laidTests := true, laidLooks := .later }
def ViewLeastCardSaid : Prop := Claim7.holds Tryz.pinned (.plain (OpenSpec.ofChange viewLeastSpec)) viewLeastCard

/-- THE SECOND FORM's CARD OF 'quirelaw14.ViewParts'. -/
def viewPartsUptoCard : Claim7 := { stood := { row := viewPartsUptoRow, standIns := [], harness := (true, "e6ad4869edbd4e064b309b53e6f20c93ff49f43cffd1cdadcf64f5d9de2eafc5"), looks := false }, kinds := [], alts := [], laidByText := true, laidKinds := [.data, .data, .data, .data, .pinned], laidTests := true, laidLooks := .later }
def ViewPartsUptoCardSaid : Prop := Claim7.holds Tryz.pinned (.plain (OpenSpec.upto viewPartsSpec)) viewPartsUptoCard

/-- THE SECOND FORM's CARD OF 'quirelaw14.ViewCuts'. -/
def viewCutsUptoCard : Claim7 := { stood := { row := viewCutsUptoRow, standIns := [], harness := (true, "e6ad4869edbd4e064b309b53e6f20c93ff49f43cffd1cdadcf64f5d9de2eafc5"), looks := false }, kinds := [], alts := [], laidByText := true, laidKinds := [.data, .data, .data, .data, .pinned], laidTests := true, laidLooks := .later }
def ViewCutsUptoCardSaid : Prop := Claim7.holds Tryz.pinned (.plain (OpenSpec.upto viewCutsSpec)) viewCutsUptoCard

/-- THE SECOND FORM's CARD OF 'quirelaw14.ViewDiff'. -/
def viewDiffUptoCard : Claim7 := { stood := { row := viewDiffUptoRow, standIns := [], harness := (true, "e6ad4869edbd4e064b309b53e6f20c93ff49f43cffd1cdadcf64f5d9de2eafc5"), looks := false }, kinds := [], alts := [], laidByText := true, laidKinds := [.data, .data, .data, .data, .pinned], laidTests := true, laidLooks := .later }
def ViewDiffUptoCardSaid : Prop := Claim7.holds Tryz.pinned (.plain (OpenSpec.upto viewDiffSpec)) viewDiffUptoCard

/-- THE SECOND FORM's CARD OF 'quirelaw14.ViewLeast'. -/
def viewLeastUptoCard : Claim7 := { stood := { row := viewLeastUptoRow, standIns := [], harness := (true, "e6ad4869edbd4e064b309b53e6f20c93ff49f43cffd1cdadcf64f5d9de2eafc5"), looks := false }, kinds := [], alts := [], laidByText := true, laidKinds := [.data, .data, .data, .data, .pinned], laidTests := true, laidLooks := .later }
def ViewLeastUptoCardSaid : Prop := Claim7.holds Tryz.pinned (.plain (OpenSpec.upto viewLeastSpec)) viewLeastUptoCard
end Rows
end Go.Proofs.YtglfoofclicfpaaGreatDoor
