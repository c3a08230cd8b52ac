/-
  DERIVED. GIVEN WITH THE SEED: THE CARDS: each row of YtifkedhbelflkaaGreatDoorRows.lean that lists a variable, with what it lists TIED to the program's text (the seventh form; the later family's looks); each row that meets fmt, with fmt's text TOLD by the authors' own Lean function (tested against real Go, not proved from fmt's source: count such statements apart). THE CARD IS WHAT COUNTS. Prove the row's statement (the work); the ties are given (YtifkedhbelflkaaGreatDoorTie.lean); close each card by the builder's one call (the guide's Derived/Test/ToyasCard.lean, 'card_holds'). Laid BY PROGRAM, IN A SANDBOX (cutbox-door.mjs). By AI agents, Wed Nov 11 2026. No macro, syntax, notation, axiom, sorry.
-/
import Derived.Test.YtifkedhbelflkaaGreatDoorRows
import GoSem.ClaimSeven
namespace Go.Proofs.YtifkedhbelflkaaGreatDoor
namespace Rows

/-- THE TIED CARD OF 'quirelaw8.OpsCut'. -/
def opsCutCard : Claim7 := { stood := { row := opsCutRow, standIns := [], harness := (true, "1a5d1a5e53fb980f7a1fa4ffdb5625bdf6eda645ff862a04339a3dc0ae828ce1"), looks := false }, kinds := [], alts := [], laidByText := true, laidKinds := [.data, .pinned], laidTests := true, laidLooks := .later }
def OpsCutCardSaid : Prop := Claim7.holds Tryz.pinned (.plain (OpenSpec.ofChange opsCutSpec)) opsCutCard

/-- THE TIED CARD OF 'quirelaw8.OpsRows'. -/
def opsRowsCard : Claim7 := { stood := { row := opsRowsRow, standIns := [], harness := (true, "1a5d1a5e53fb980f7a1fa4ffdb5625bdf6eda645ff862a04339a3dc0ae828ce1"), looks := false }, kinds := [], alts := [], laidByText := true, laidKinds := [.data, .pinned], laidTests := true, laidLooks := .later }
def OpsRowsCardSaid : Prop := Claim7.holds Tryz.pinned (.plain (OpenSpec.ofChange opsRowsSpec)) opsRowsCard

/-- THE SECOND FORM's CARD OF 'quirelaw8.OpsCut'. -/
def opsCutUptoCard : Claim7 := { stood := { row := opsCutUptoRow, standIns := [], harness := (true, "1a5d1a5e53fb980f7a1fa4ffdb5625bdf6eda645ff862a04339a3dc0ae828ce1"), looks := false }, kinds := [], alts := [], laidByText := true, laidKinds := [.data, .pinned], laidTests := true, laidLooks := .later }
def OpsCutUptoCardSaid : Prop := Claim7.holds Tryz.pinned (.plain (OpenSpec.upto opsCutSpec)) opsCutUptoCard

/-- THE SECOND FORM's CARD OF 'quirelaw8.OpsRows'. -/
def opsRowsUptoCard : Claim7 := { stood := { row := opsRowsUptoRow, standIns := [], harness := (true, "1a5d1a5e53fb980f7a1fa4ffdb5625bdf6eda645ff862a04339a3dc0ae828ce1"), looks := false }, kinds := [], alts := [], laidByText := true, laidKinds := [.data, .pinned], laidTests := true, laidLooks := .later }
def OpsRowsUptoCardSaid : Prop := Claim7.holds Tryz.pinned (.plain (OpenSpec.upto opsRowsSpec)) opsRowsUptoCard
end Rows
end Go.Proofs.YtifkedhbelflkaaGreatDoor
