/-
  DERIVED. GIVEN WITH THE SEED: THE CARDS: each row of YtajkbnjcjbinlaaDoorRows.lean that lists a variable, with what it lists TIED to the program's text (the seventh form; the later family's looks); each row that meets fmt, with fmt's text TOLD by the authors' own Lean function (tested against real Go, not proved from fmt's source: count such statements apart). THE CARD IS WHAT COUNTS. Prove the row's statement (the work); the ties are given (YtajkbnjcjbinlaaDoorTie.lean); close each card by the builder's one call (the guide's Derived/Test/ToyasCard.lean, 'card_holds'). Laid BY PROGRAM, IN A SANDBOX (cutbox-door.mjs). By AI agents, Wed Nov 11 2026. No macro, syntax, notation, axiom, sorry.
-/
import Derived.Test.YtajkbnjcjbinlaaDoorRows
import GoSem.ClaimSeven
namespace Go.Proofs.YtajkbnjcjbinlaaDoor
namespace Rows

/-- THE TIED CARD OF 'quirelaw3.UtfCounts'. -/
def utfCountsCard : Claim7 := { stood := { row := utfCountsRow, standIns := [], harness := (true, "e2c4adac4b8b864f310f6dfdef591be41147ae49dd8c4438909c0496e71aea82"), looks := false }, kinds := [], alts := [], laidByText := true, laidKinds := [.data, .pinned], laidTests := true, laidLooks := .later }
def UtfCountsCardSaid : Prop := Claim7.holds Tryd.pinned (.plain (OpenSpec.ofChange utfCountsSpec)) utfCountsCard

/-- THE TIED CARD OF 'quirelaw3.UtfCuts'. -/
def utfCutsCard : Claim7 := { stood := { row := utfCutsRow, standIns := [], harness := (true, "e2c4adac4b8b864f310f6dfdef591be41147ae49dd8c4438909c0496e71aea82"), looks := false }, kinds := [], alts := [], laidByText := true, laidKinds := [.data, .pinned], laidTests := true, laidLooks := .later }
def UtfCutsCardSaid : Prop := Claim7.holds Tryd.pinned (.plain (OpenSpec.ofChange utfCutsSpec)) utfCutsCard

/-- THE TIED CARD OF 'quirelaw3.UtfPlaces'. -/
def utfPlacesCard : Claim7 := { stood := { row := utfPlacesRow, standIns := [], harness := (true, "e2c4adac4b8b864f310f6dfdef591be41147ae49dd8c4438909c0496e71aea82"), looks := false }, kinds := [], alts := [], laidByText := true, laidKinds := [.data, .pinned], laidTests := true, laidLooks := .later }
def UtfPlacesCardSaid : Prop := Claim7.holds Tryd.pinned (.plain (OpenSpec.ofChange utfPlacesSpec)) utfPlacesCard

/-- THE TIED CARD OF 'quirelaw3.UtfEach'. -/
def utfEachCard : Claim7 := { stood := { row := utfEachRow, standIns := [], harness := (true, "e2c4adac4b8b864f310f6dfdef591be41147ae49dd8c4438909c0496e71aea82"), looks := false }, kinds := [], alts := [], laidByText := true, laidKinds := [.data, .pinned], laidTests := true, laidLooks := .later }
def UtfEachCardSaid : Prop := Claim7.holds Tryd.pinned (.plain (OpenSpec.ofChange utfEachSpec)) utfEachCard

/-- THE TIED CARD OF 'quirelaw3.UtfAdds'. -/
def utfAddsCard : Claim7 := { stood := { row := utfAddsRow, standIns := [], harness := (true, "e2c4adac4b8b864f310f6dfdef591be41147ae49dd8c4438909c0496e71aea82"), looks := false }, kinds := [], alts := [], laidByText := true, laidKinds := [.data, .pinned], laidTests := true, laidLooks := .later }
def UtfAddsCardSaid : Prop := Claim7.holds Tryd.pinned (.plain (OpenSpec.ofChange utfAddsSpec)) utfAddsCard

/-- THE TIED CARD OF 'quirelaw3.UtfWide'. -/
def utfWideCard : Claim7 := { stood := { row := utfWideRow, standIns := [], harness := (true, "e2c4adac4b8b864f310f6dfdef591be41147ae49dd8c4438909c0496e71aea82"), looks := false }, kinds := [], alts := [], laidByText := true, laidKinds := [.data, .pinned], laidTests := true, laidLooks := .later }
def UtfWideCardSaid : Prop := Claim7.holds Tryd.pinned (.plain (OpenSpec.ofChange utfWideSpec)) utfWideCard

/-- THE SECOND FORM's CARD OF 'quirelaw3.UtfCounts'. -/
def utfCountsUptoCard : Claim7 := { stood := { row := utfCountsUptoRow, standIns := [], harness := (true, "e2c4adac4b8b864f310f6dfdef591be41147ae49dd8c4438909c0496e71aea82"), looks := false }, kinds := [], alts := [], laidByText := true, laidKinds := [.data, .pinned], laidTests := true, laidLooks := .later }
def UtfCountsUptoCardSaid : Prop := Claim7.holds Tryd.pinned (.plain (OpenSpec.upto utfCountsSpec)) utfCountsUptoCard

/-- THE SECOND FORM's CARD OF 'quirelaw3.UtfCuts'. -/
def utfCutsUptoCard : Claim7 := { stood := { row := utfCutsUptoRow, standIns := [], harness := (true, "e2c4adac4b8b864f310f6dfdef591be41147ae49dd8c4438909c0496e71aea82"), looks := false }, kinds := [], alts := [], laidByText := true, laidKinds := [.data, .pinned], laidTests := true, laidLooks := .later }
def UtfCutsUptoCardSaid : Prop := Claim7.holds Tryd.pinned (.plain (OpenSpec.upto utfCutsSpec)) utfCutsUptoCard

/-- THE SECOND FORM's CARD OF 'quirelaw3.UtfPlaces'. -/
def utfPlacesUptoCard : Claim7 := { stood := { row := utfPlacesUptoRow, standIns := [], harness := (true, "e2c4adac4b8b864f310f6dfdef591be41147ae49dd8c4438909c0496e71aea82"), looks := false }, kinds := [], alts := [], laidByText := true, laidKinds := [.data, .pinned], laidTests := true, laidLooks := .later }
def UtfPlacesUptoCardSaid : Prop := Claim7.holds Tryd.pinned (.plain (OpenSpec.upto utfPlacesSpec)) utfPlacesUptoCard

/-- THE SECOND FORM's CARD OF 'quirelaw3.UtfEach'. -/
def utfEachUptoCard : Claim7 := { stood := { row := utfEachUptoRow, standIns := [], harness := (true, "e2c4adac4b8b864f310f6dfdef591be41147ae49dd8c4438909c0496e71aea82"), looks := false }, kinds := [], alts := [], laidByText := true, laidKinds := [.data, .pinned], laidTests := true, laidLooks := .later }
def UtfEachUptoCardSaid : Prop := Claim7.holds Tryd.pinned (.plain (OpenSpec.upto utfEachSpec)) utfEachUptoCard

/-- THE SECOND FORM's CARD OF 'quirelaw3.UtfAdds'. -/
def utfAddsUptoCard : Claim7 := { stood := { row := utfAddsUptoRow, standIns := [], harness := (true, "e2c4adac4b8b864f310f6dfdef591be41147ae49dd8c4438909c0496e71aea82"), looks := false }, kinds := [], alts := [], laidByText := true, laidKinds := [.data, .pinned], laidTests := true, laidLooks := .later }
def UtfAddsUptoCardSaid : Prop := Claim7.holds Tryd.pinned (.plain (OpenSpec.upto utfAddsSpec)) utfAddsUptoCard

/-- THE SECOND FORM's CARD OF 'quirelaw3.UtfWide'. -/
def utfWideUptoCard : Claim7 := { stood := { row := utfWideUptoRow, standIns := [], harness := (true, "e2c4adac4b8b864f310f6dfdef591be41147ae49dd8c4438909c0496e71aea82"), looks := false }, kinds := [], alts := [], laidByText := true, laidKinds := [.data, .pinned], laidTests := true, laidLooks := .later }
def UtfWideUptoCardSaid : Prop := Claim7.holds Tryd.pinned (.plain (OpenSpec.upto utfWideSpec)) utfWideUptoCard
end Rows
end Go.Proofs.YtajkbnjcjbinlaaDoor
