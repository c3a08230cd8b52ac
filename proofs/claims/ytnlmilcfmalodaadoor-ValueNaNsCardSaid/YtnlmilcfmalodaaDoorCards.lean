/-
  DERIVED. GIVEN WITH THE SEED: THE CARDS: each row of YtnlmilcfmalodaaDoorRows.lean that lists a variable, with what it lists TIED to the program's text (the seventh form; the later family's looks); each row that meets fmt, with fmt's text TOLD by the authors' own Lean function (tested against real Go, not proved from fmt's source: count such statements apart). THE CARD IS WHAT COUNTS. Prove the row's statement (the work); the ties are given (YtnlmilcfmalodaaDoorTie.lean); close each card by the builder's one call (the guide's Derived/Test/ToyasCard.lean, 'card_holds'). Laid BY PROGRAM, IN A SANDBOX (cutbox-door.mjs). By AI agents, Wed Nov 11 2026. No macro, syntax, notation, axiom, sorry.
-/
import Derived.Test.YtnlmilcfmalodaaDoorRows
import GoSem.ClaimSeven
namespace Go.Proofs.YtnlmilcfmalodaaDoor
namespace Rows

/-- THE TIED CARD OF 'quirelaw2.ValueCheck'. -/
def valueCheckCard : Claim7 := { stood := { row := valueCheckRow, standIns := [], harness := (true, "b228f6d05e0e03b4638577fbc33b17821fda65fc36ac3d77ff76d0a474ab0828"), looks := false }, kinds := [], alts := [], laidByText := true, laidKinds := [.data, .data, .data, .data, .pinned], laidTests := true, laidLooks := .later }
def ValueCheckCardSaid : Prop := Claim7.holds Tryd.pinned (.plain (OpenSpec.ofChange valueCheckSpec)) valueCheckCard

/-- THE TIED CARD OF 'quirelaw2.ValueOrder'. -/
def valueOrderCard : Claim7 := { stood := { row := valueOrderRow, standIns := [], harness := (true, "b228f6d05e0e03b4638577fbc33b17821fda65fc36ac3d77ff76d0a474ab0828"), looks := false }, kinds := [], alts := [], laidByText := true, laidKinds := [.data, .data, .data, .data, .pinned], laidTests := true, laidLooks := .later }
def ValueOrderCardSaid : Prop := Claim7.holds Tryd.pinned (.plain (OpenSpec.ofChange valueOrderSpec)) valueOrderCard

/-- THE TIED CARD OF 'quirelaw2.ValueFloats'. -/
def valueFloatsCard : Claim7 := { stood := { row := valueFloatsRow, standIns := [], harness := (true, "b228f6d05e0e03b4638577fbc33b17821fda65fc36ac3d77ff76d0a474ab0828"), looks := false }, kinds := [], alts := [], laidByText := true, laidKinds := [.data, .data, .data, .data, .pinned], laidTests := true, laidLooks := .later }
def ValueFloatsCardSaid : Prop := Claim7.holds Tryd.pinned (.plain (OpenSpec.ofChange valueFloatsSpec)) valueFloatsCard

/-- THE TIED CARD OF 'quirelaw2.ValueAdds'. -/
def valueAddsCard : Claim7 := { stood := { row := valueAddsRow, standIns := [], harness := (true, "b228f6d05e0e03b4638577fbc33b17821fda65fc36ac3d77ff76d0a474ab0828"), looks := false }, kinds := [], alts := [], laidByText := true, laidKinds := [.data, .data, .data, .data, .pinned], laidTests := true, laidLooks := .later }
def ValueAddsCardSaid : Prop := Claim7.holds Tryd.pinned (.plain (OpenSpec.ofChange valueAddsSpec)) valueAddsCard

/-- THE TIED CARD OF 'quirelaw2.ValueNoughts'. -/
def valueNoughtsCard : Claim7 := { stood := { row := valueNoughtsRow, standIns := [], harness := (true, "b228f6d05e0e03b4638577fbc33b17821fda65fc36ac3d77ff76d0a474ab0828"), looks := false }, kinds := [], alts := [], laidByText := true, laidKinds := [.data, .data, .data, .data, .pinned], laidTests := true, laidLooks := .later }
def ValueNoughtsCardSaid : Prop := Claim7.holds Tryd.pinned (.plain (OpenSpec.ofChange valueNoughtsSpec)) valueNoughtsCard

/-- THE TIED CARD OF 'quirelaw2.ValueTexts'. -/
def valueTextsCard : Claim7 := { stood := { row := valueTextsRow, standIns := [], harness := (true, "b228f6d05e0e03b4638577fbc33b17821fda65fc36ac3d77ff76d0a474ab0828"), looks := false }, kinds := [], alts := [], laidByText := true, laidKinds := [.data, .data, .data, .data, .pinned], laidTests := true, laidLooks := .later }
def ValueTextsCardSaid : Prop := Claim7.holds Tryd.pinned (.plain (OpenSpec.ofChange valueTextsSpec)) valueTextsCard

/-- THE TIED CARD OF 'quirelaw2.ValueNaNs'. -/
def valueNaNsCard : Claim7 := { stood := { row := valueNaNsRow, standIns := [], harness := (true, "b228f6d05e0e03b4638577fbc33b17821fda65fc36ac3d77ff76d0a474ab0828"), looks := false }, kinds := [], alts := [], laidByText := true, laidKinds := [.data, .data, .data, .data, .pinned], laidTests := true, laidLooks := .later }
def ValueNaNsCardSaid : Prop := Claim7.holds Tryd.pinned (.plain (OpenSpec.ofChange valueNaNsSpec)) valueNaNsCard

/-- THE SECOND FORM's CARD OF 'quirelaw2.ValueCheck'. -/
def valueCheckUptoCard : Claim7 := { stood := { row := valueCheckUptoRow, standIns := [], harness := (true, "b228f6d05e0e03b4638577fbc33b17821fda65fc36ac3d77ff76d0a474ab0828"), looks := false }, kinds := [], alts := [], laidByText := true, laidKinds := [.data, .data, .data, .data, .pinned], laidTests := true, laidLooks := .later }
def ValueCheckUptoCardSaid : Prop := Claim7.holds Tryd.pinned (.plain (OpenSpec.upto valueCheckSpec)) valueCheckUptoCard

/-- THE SECOND FORM's CARD OF 'quirelaw2.ValueOrder'. -/
def valueOrderUptoCard : Claim7 := { stood := { row := valueOrderUptoRow, standIns := [], harness := (true, "b228f6d05e0e03b4638577fbc33b17821fda65fc36ac3d77ff76d0a474ab0828"), looks := false }, kinds := [], alts := [], laidByText := true, laidKinds := [.data, .data, .data, .data, .pinned], laidTests := true, laidLooks := .later }
def ValueOrderUptoCardSaid : Prop := Claim7.holds Tryd.pinned (.plain (OpenSpec.upto valueOrderSpec)) valueOrderUptoCard

/-- THE SECOND FORM's CARD OF 'quirelaw2.ValueFloats'. -/
def valueFloatsUptoCard : Claim7 := { stood := { row := valueFloatsUptoRow, standIns := [], harness := (true, "b228f6d05e0e03b4638577fbc33b17821fda65fc36ac3d77ff76d0a474ab0828"), looks := false }, kinds := [], alts := [], laidByText := true, laidKinds := [.data, .data, .data, .data, .pinned], laidTests := true, laidLooks := .later }
def ValueFloatsUptoCardSaid : Prop := Claim7.holds Tryd.pinned (.plain (OpenSpec.upto valueFloatsSpec)) valueFloatsUptoCard

/-- THE SECOND FORM's CARD OF 'quirelaw2.ValueAdds'. -/
def valueAddsUptoCard : Claim7 := { stood := { row := valueAddsUptoRow, standIns := [], harness := (true, "b228f6d05e0e03b4638577fbc33b17821fda65fc36ac3d77ff76d0a474ab0828"), looks := false }, kinds := [], alts := [], laidByText := true, laidKinds := [.data, .data, .data, .data, .pinned], laidTests := true, laidLooks := .later }
def ValueAddsUptoCardSaid : Prop := Claim7.holds Tryd.pinned (.plain (OpenSpec.upto valueAddsSpec)) valueAddsUptoCard

/-- THE SECOND FORM's CARD OF 'quirelaw2.ValueNoughts'. -/
def valueNoughtsUptoCard : Claim7 := { stood := { row := valueNoughtsUptoRow, standIns := [], harness := (true, "b228f6d05e0e03b4638577fbc33b17821fda65fc36ac3d77ff76d0a474ab0828"), looks := false }, kinds := [], alts := [], laidByText := true, laidKinds := [.data, .data, .data, .data, .pinned], laidTests := true, laidLooks := .later }
def ValueNoughtsUptoCardSaid : Prop := Claim7.holds Tryd.pinned (.plain (OpenSpec.upto valueNoughtsSpec)) valueNoughtsUptoCard

/-- THE SECOND FORM's CARD OF 'quirelaw2.ValueTexts'. -/
def valueTextsUptoCard : Claim7 := { stood := { row := valueTextsUptoRow, standIns := [], harness := (true, "b228f6d05e0e03b4638577fbc33b17821fda65fc36ac3d77ff76d0a474ab0828"), looks := false }, kinds := [], alts := [], laidByText := true, laidKinds := [.data, .data, .data, .data, .pinned], laidTests := true, laidLooks := .later }
def ValueTextsUptoCardSaid : Prop := Claim7.holds Tryd.pinned (.plain (OpenSpec.upto valueTextsSpec)) valueTextsUptoCard

/-- THE SECOND FORM's CARD OF 'quirelaw2.ValueNaNs'. -/
def valueNaNsUptoCard : Claim7 := { stood := { row := valueNaNsUptoRow, standIns := [], harness := (true, "b228f6d05e0e03b4638577fbc33b17821fda65fc36ac3d77ff76d0a474ab0828"), looks := false }, kinds := [], alts := [], laidByText := true, laidKinds := [.data, .data, .data, .data, .pinned], laidTests := true, laidLooks := .later }
def ValueNaNsUptoCardSaid : Prop := Claim7.holds Tryd.pinned (.plain (OpenSpec.upto valueNaNsSpec)) valueNaNsUptoCard
end Rows
end Go.Proofs.YtnlmilcfmalodaaDoor
