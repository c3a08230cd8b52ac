/-
  DERIVED. GIVEN WITH THE SEED: THE CARDS: each row of YtfocnbmihcnaoaaGreatDoorRows.lean that lists a variable, with what it lists TIED to the program's text (the seventh form; the later family's looks); each row that meets fmt, with fmt's text TOLD by the authors' own Lean function (tested against real Go, not proved from fmt's source: count such statements apart). THE CARD IS WHAT COUNTS. Prove the row's statement (the work); the ties are given (YtfocnbmihcnaoaaGreatDoorTie.lean); close each card by the builder's one call (the guide's Derived/Test/ToyasCard.lean, 'card_holds'). Laid BY PROGRAM, IN A SANDBOX (cutbox-door.mjs). By AI agents, Wed Nov 11 2026. No macro, syntax, notation, axiom, sorry.
-/
import Derived.Test.YtfocnbmihcnaoaaGreatDoorRows
import GoSem.ClaimSeven
namespace Go.Proofs.YtfocnbmihcnaoaaGreatDoor
namespace Rows

/-- THE TIED CARD OF 'quirelaw5.WalLives'. -/
def walLivesCard : Claim7 := { stood := { row := walLivesRow, standIns := [], harness := (true, "5bf599c09bfa0d7043b3e02cf14dd5bb71a69f0ea60d7c2979413700bddc4877"), looks := true }, kinds := [], alts := [], laidByText := true, laidKinds := [.data, .data, .data, .data, .sentinel, .sentinel, .pinned], laidTests := true, laidLooks := .later }
def WalLivesCardSaid : Prop := Claim7.holds Tryz.pinned (.plain (OpenSpec.ofChange walLivesSpec)) walLivesCard

/-- THE TIED CARD OF 'quirelaw5.WalSegments'. -/
def walSegmentsCard : Claim7 := { stood := { row := walSegmentsRow, standIns := [], harness := (true, "5bf599c09bfa0d7043b3e02cf14dd5bb71a69f0ea60d7c2979413700bddc4877"), looks := true }, kinds := [], alts := [], laidByText := true, laidKinds := [.data, .data, .data, .data, .sentinel, .sentinel, .pinned], laidTests := true, laidLooks := .later }
def WalSegmentsCardSaid : Prop := Claim7.holds Tryz.pinned (.plain (OpenSpec.ofChange walSegmentsSpec)) walSegmentsCard

/-- THE TIED CARD OF 'quirelaw5.WalEvery'. -/
def walEveryCard : Claim7 := { stood := { row := walEveryRow, standIns := [], harness := (true, "5bf599c09bfa0d7043b3e02cf14dd5bb71a69f0ea60d7c2979413700bddc4877"), looks := true }, kinds := [], alts := [], laidByText := true, laidKinds := [.data, .data, .data, .data, .sentinel, .sentinel, .pinned], laidTests := true, laidLooks := .later }
def WalEveryCardSaid : Prop := Claim7.holds Tryz.pinned (.plain (OpenSpec.ofChange walEverySpec)) walEveryCard

/-- THE SECOND FORM's CARD OF 'quirelaw5.WalLives'. -/
def walLivesUptoCard : Claim7 := { stood := { row := walLivesUptoRow, standIns := [], harness := (true, "5bf599c09bfa0d7043b3e02cf14dd5bb71a69f0ea60d7c2979413700bddc4877"), looks := true }, kinds := [], alts := [], laidByText := true, laidKinds := [.data, .data, .data, .data, .sentinel, .sentinel, .pinned], laidTests := true, laidLooks := .later }
def WalLivesUptoCardSaid : Prop := Claim7.holds Tryz.pinned (.plain (OpenSpec.upto walLivesSpec)) walLivesUptoCard

/-- THE SECOND FORM's CARD OF 'quirelaw5.WalSegments'. -/
def walSegmentsUptoCard : Claim7 := { stood := { row := walSegmentsUptoRow, standIns := [], harness := (true, "5bf599c09bfa0d7043b3e02cf14dd5bb71a69f0ea60d7c2979413700bddc4877"), looks := true }, kinds := [], alts := [], laidByText := true, laidKinds := [.data, .data, .data, .data, .sentinel, .sentinel, .pinned], laidTests := true, laidLooks := .later }
def WalSegmentsUptoCardSaid : Prop := Claim7.holds Tryz.pinned (.plain (OpenSpec.upto walSegmentsSpec)) walSegmentsUptoCard

/-- THE SECOND FORM's CARD OF 'quirelaw5.WalEvery'. -/
def walEveryUptoCard : Claim7 := { stood := { row := walEveryUptoRow, standIns := [], harness := (true, "5bf599c09bfa0d7043b3e02cf14dd5bb71a69f0ea60d7c2979413700bddc4877"), looks := true }, kinds := [], alts := [], laidByText := true, laidKinds := [.data, .data, .data, .data, .sentinel, .sentinel, .pinned], laidTests := true, laidLooks := .later }
def WalEveryUptoCardSaid : Prop := Claim7.holds Tryz.pinned (.plain (OpenSpec.upto walEverySpec)) walEveryUptoCard
end Rows
end Go.Proofs.YtfocnbmihcnaoaaGreatDoor
