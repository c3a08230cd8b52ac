/-
  NARROWER THAN 'FOR EVERY INPUT', by the rows' own cells (each row's printed sentence says how): UtfCounts: laid · UtfCuts: laid · UtfPlaces: laid · UtfEach: laid · UtfAdds: laid · UtfWide: laid.
  DERIVED. THE GIVEN ROWS OF THIS SEAT. 6 by the template 'for every input the law returns true; each argument reads behind the call as it read before'; 0 by the template 'total and deterministic' (their statements: YtajkbnjcjbinlaaDoorTotals.lean).
  GIVEN WITH THE SEED: the statements are not yours to turn. If you find one false, say at which input.
  Laid BY PROGRAM, IN A SANDBOX (cutbox-rows.mjs): the forced cells as the released guide's own fill.sh prints them over the translation 366c04422cfb4e3c… (all of the seat's roots in one cut). By AI agents, Wed Nov 11 2026. No macro, syntax, notation, axiom, sorry.
-/
import Derived.Test.YtajkbnjcjbinlaaDoorChecked
import GoSem.PinnedTables
import GoSem.Claim
import GoSem.ClaimJoined
import GoSem.ClaimMapViews
import Derived.JoinedTies
import Derived.KernelRfl
namespace Go.Proofs.YtajkbnjcjbinlaaDoor
/- THE CELL 'sum', in the pinned program and in every row, IS THE sha256 OF THE DUMP (.gsa) THAT YtajkbnjcjbinlaaDoorProg.lean LOADS. Nothing in Lean hashes anything: it is a label: what it is worth is what the hold of that sum in a sandbox is worth. -/
noncomputable def Tryd.pinned : Pinned := { name := "ytajkbnjcjbinlaadoor", sum := "366c04422cfb4e3c8fbe30e7a21af2a77a4901aab3fdcce93ab3b8d2de57521b", checked := Tryd.checked }
namespace Rows
def none {H : Type} : Left H := { results := [], args := [] }

/- WHAT THE LISTED PACKAGE-LEVEL VARIABLES READ AS WHEN THE CALL BEGINS. Each datum BY PROGRAM (the guide's laid-datum.mjs) off the statement by which the dump's own 'gosem.cut.vars' lays the variable. In a bare row this is a premise. The card (YtajkbnjcjbinlaaDoorCards.lean) ties it to the program's text. -/
def laid_unicode_utf8_acceptRanges {H : Type} : DataW H := .agg [.agg [.lit (.int .u8 128), .lit (.int .u8 191)], .agg [.lit (.int .u8 160), .lit (.int .u8 191)], .agg [.lit (.int .u8 128), .lit (.int .u8 159)], .agg [.lit (.int .u8 144), .lit (.int .u8 191)], .agg [.lit (.int .u8 128), .lit (.int .u8 143)], .agg [.lit (.int .u8 0), .lit (.int .u8 0)], .agg [.lit (.int .u8 0), .lit (.int .u8 0)], .agg [.lit (.int .u8 0), .lit (.int .u8 0)], .agg [.lit (.int .u8 0), .lit (.int .u8 0)], .agg [.lit (.int .u8 0), .lit (.int .u8 0)], .agg [.lit (.int .u8 0), .lit (.int .u8 0)], .agg [.lit (.int .u8 0), .lit (.int .u8 0)], .agg [.lit (.int .u8 0), .lit (.int .u8 0)], .agg [.lit (.int .u8 0), .lit (.int .u8 0)], .agg [.lit (.int .u8 0), .lit (.int .u8 0)], .agg [.lit (.int .u8 0), .lit (.int .u8 0)]]
/-- One of Go's own tables, pinned by name: the form's constant. -/
def laid_unicode_utf8_first : DataW Unit := Go.Pinned.utf8First

/-- 'quirelaw3.UtfCounts': WHATEVER THE INPUT: true; the input reads as it did. -/
def utfCountsSpec : ChangeSpec := { name := "utfCounts", fn := fun _ => fun
  | [d] => { results := [.lit (.bool true)], args := [d] }
  | _ => none }
def utfCountsRow : OpenClaim := { program := "ytajkbnjcjbinlaadoor", sum := "366c04422cfb4e3c8fbe30e7a21af2a77a4901aab3fdcce93ab3b8d2de57521b", func := "quire/quirelaw3.UtfCounts", spec := "utfCounts", unfollowed := true, recurses := true, named := ["unicode/utf8.first", "unicode/utf8.acceptRanges"], apart := false, laid := [("unicode/utf8.acceptRanges", laid_unicode_utf8_acceptRanges), ("unicode/utf8.first", laid_unicode_utf8_first)] }
def UtfCountsSaid : Prop := utfCountsRow.holds Tryd.pinned (OpenSpec.ofChange utfCountsSpec)

/-- ITS FALSE NEIGHBOUR: 'it returns false'. Refute it at one input. -/
def utfCountsWrong : ChangeSpec := { name := "utfCounts", fn := fun _ => fun
  | [d] => { results := [.lit (.bool false)], args := [d] }
  | _ => none }
def UtfCountsWrongFalsely : Prop := utfCountsRow.holds Tryd.pinned (OpenSpec.ofChange utfCountsWrong)

/-- 'quirelaw3.UtfCuts': WHATEVER THE INPUT: true; the input reads as it did. -/
def utfCutsSpec : ChangeSpec := { name := "utfCuts", fn := fun _ => fun
  | [d1, d2, d3] => { results := [.lit (.bool true)], args := [d1, d2, d3] }
  | _ => none }
def utfCutsRow : OpenClaim := { program := "ytajkbnjcjbinlaadoor", sum := "366c04422cfb4e3c8fbe30e7a21af2a77a4901aab3fdcce93ab3b8d2de57521b", func := "quire/quirelaw3.UtfCuts", spec := "utfCuts", unfollowed := true, recurses := true, named := ["unicode/utf8.first", "unicode/utf8.acceptRanges"], apart := false, laid := [("unicode/utf8.acceptRanges", laid_unicode_utf8_acceptRanges), ("unicode/utf8.first", laid_unicode_utf8_first)] }
def UtfCutsSaid : Prop := utfCutsRow.holds Tryd.pinned (OpenSpec.ofChange utfCutsSpec)

/-- ITS FALSE NEIGHBOUR: 'it returns false'. Refute it at one input. -/
def utfCutsWrong : ChangeSpec := { name := "utfCuts", fn := fun _ => fun
  | [d1, d2, d3] => { results := [.lit (.bool false)], args := [d1, d2, d3] }
  | _ => none }
def UtfCutsWrongFalsely : Prop := utfCutsRow.holds Tryd.pinned (OpenSpec.ofChange utfCutsWrong)

/-- 'quirelaw3.UtfPlaces': WHATEVER THE INPUT: true; the input reads as it did. -/
def utfPlacesSpec : ChangeSpec := { name := "utfPlaces", fn := fun _ => fun
  | [d1, d2] => { results := [.lit (.bool true)], args := [d1, d2] }
  | _ => none }
def utfPlacesRow : OpenClaim := { program := "ytajkbnjcjbinlaadoor", sum := "366c04422cfb4e3c8fbe30e7a21af2a77a4901aab3fdcce93ab3b8d2de57521b", func := "quire/quirelaw3.UtfPlaces", spec := "utfPlaces", unfollowed := true, recurses := true, named := ["unicode/utf8.first", "unicode/utf8.acceptRanges"], apart := false, laid := [("unicode/utf8.acceptRanges", laid_unicode_utf8_acceptRanges), ("unicode/utf8.first", laid_unicode_utf8_first)] }
def UtfPlacesSaid : Prop := utfPlacesRow.holds Tryd.pinned (OpenSpec.ofChange utfPlacesSpec)

/-- ITS FALSE NEIGHBOUR: 'it returns false'. Refute it at one input. -/
def utfPlacesWrong : ChangeSpec := { name := "utfPlaces", fn := fun _ => fun
  | [d1, d2] => { results := [.lit (.bool false)], args := [d1, d2] }
  | _ => none }
def UtfPlacesWrongFalsely : Prop := utfPlacesRow.holds Tryd.pinned (OpenSpec.ofChange utfPlacesWrong)

/-- 'quirelaw3.UtfEach': WHATEVER THE INPUT: true; the input reads as it did. -/
def utfEachSpec : ChangeSpec := { name := "utfEach", fn := fun _ => fun
  | [d1, d2] => { results := [.lit (.bool true)], args := [d1, d2] }
  | _ => none }
def utfEachRow : OpenClaim := { program := "ytajkbnjcjbinlaadoor", sum := "366c04422cfb4e3c8fbe30e7a21af2a77a4901aab3fdcce93ab3b8d2de57521b", func := "quire/quirelaw3.UtfEach", spec := "utfEach", unfollowed := true, recurses := true, named := ["unicode/utf8.first", "unicode/utf8.acceptRanges"], apart := false, laid := [("unicode/utf8.acceptRanges", laid_unicode_utf8_acceptRanges), ("unicode/utf8.first", laid_unicode_utf8_first)] }
def UtfEachSaid : Prop := utfEachRow.holds Tryd.pinned (OpenSpec.ofChange utfEachSpec)

/-- ITS FALSE NEIGHBOUR: 'it returns false'. Refute it at one input. -/
def utfEachWrong : ChangeSpec := { name := "utfEach", fn := fun _ => fun
  | [d1, d2] => { results := [.lit (.bool false)], args := [d1, d2] }
  | _ => none }
def UtfEachWrongFalsely : Prop := utfEachRow.holds Tryd.pinned (OpenSpec.ofChange utfEachWrong)

/-- 'quirelaw3.UtfAdds': WHATEVER THE INPUT: true; the input reads as it did. -/
def utfAddsSpec : ChangeSpec := { name := "utfAdds", fn := fun _ => fun
  | [d1, d2, d3] => { results := [.lit (.bool true)], args := [d1, d2, d3] }
  | _ => none }
def utfAddsRow : OpenClaim := { program := "ytajkbnjcjbinlaadoor", sum := "366c04422cfb4e3c8fbe30e7a21af2a77a4901aab3fdcce93ab3b8d2de57521b", func := "quire/quirelaw3.UtfAdds", spec := "utfAdds", unfollowed := true, recurses := true, named := ["unicode/utf8.first", "unicode/utf8.acceptRanges"], apart := false, laid := [("unicode/utf8.acceptRanges", laid_unicode_utf8_acceptRanges), ("unicode/utf8.first", laid_unicode_utf8_first)] }
def UtfAddsSaid : Prop := utfAddsRow.holds Tryd.pinned (OpenSpec.ofChange utfAddsSpec)

/-- ITS FALSE NEIGHBOUR: 'it returns false'. Refute it at one input. -/
def utfAddsWrong : ChangeSpec := { name := "utfAdds", fn := fun _ => fun
  | [d1, d2, d3] => { results := [.lit (.bool false)], args := [d1, d2, d3] }
  | _ => none }
def UtfAddsWrongFalsely : Prop := utfAddsRow.holds Tryd.pinned (OpenSpec.ofChange utfAddsWrong)

/-- 'quirelaw3.UtfWide': WHATEVER THE INPUT: true; the input reads as it did. -/
def utfWideSpec : ChangeSpec := { name := "utfWide", fn := fun _ => fun
  | [d] => { results := [.lit (.bool true)], args := [d] }
  | _ => none }
def utfWideRow : OpenClaim := { program := "ytajkbnjcjbinlaadoor", sum := "366c04422cfb4e3c8fbe30e7a21af2a77a4901aab3fdcce93ab3b8d2de57521b", func := "quire/quirelaw3.UtfWide", spec := "utfWide", unfollowed := true, recurses := true, named := ["unicode/utf8.first", "unicode/utf8.acceptRanges"], apart := false, laid := [("unicode/utf8.acceptRanges", laid_unicode_utf8_acceptRanges), ("unicode/utf8.first", laid_unicode_utf8_first)] }
def UtfWideSaid : Prop := utfWideRow.holds Tryd.pinned (OpenSpec.ofChange utfWideSpec)

/-- ITS FALSE NEIGHBOUR: 'it returns false'. Refute it at one input. -/
def utfWideWrong : ChangeSpec := { name := "utfWide", fn := fun _ => fun
  | [d] => { results := [.lit (.bool false)], args := [d] }
  | _ => none }
def UtfWideWrongFalsely : Prop := utfWideRow.holds Tryd.pinned (OpenSpec.ofChange utfWideWrong)

/- THE SECOND FORM. 'bulk': how many values and letters a reading holds, each counted each time it is reached (what is shared counts as often as it is met; a slice's spare places count too). A statement '..UptoSaid' is the law's where the arguments, and the package variables that the reading takes, are together of bulk at most 1048576: NARROWER than '..Said'. Prove '..Said' where nothing that the law and all that it calls make is longer than what came in: it says more and counts as full. Else prove '..UptoSaid'. A law counts once. -/
mutual
def uptoBulk {H : Type} : DataW H → Nat
  | .lit (.string bytes) => bytes.length + 1
  | .lit _ => 1
  | .nil => 1
  | .ptr d => uptoBulk d + 1
  | .slice elems spare => uptoBulkAll elems + uptoBulkAll spare + 1
  | .agg parts => uptoBulkAll parts + 1
  | .iface _ d => uptoBulk d + 1
  | .map entries => uptoBulkEntries entries + 1
  | .held _ => 1
def uptoBulkAll {H : Type} : List (DataW H) → Nat
  | [] => 0
  | d :: r => uptoBulk d + uptoBulkAll r
def uptoBulkEntries {H : Type} : List (Lit × DataW H) → Nat
  | [] => 0
  | x :: r => uptoBulkEntry x + uptoBulkEntries r
def uptoBulkEntry {H : Type} : Lit × DataW H → Nat
  | (.string bytes, d) => bytes.length + uptoBulk d + 1
  | (_, d) => uptoBulk d + 1
 end
def uptoSmall : (H : Type) → List (DataW H) → Bool := fun _ ds => decide (uptoBulkAll ds ≤ 1048576)
def OpenSpec.upto (s : _root_.Go.ChangeSpec) : _root_.Go.OpenSpec := { _root_.Go.OpenSpec.ofChange s with cond := some uptoSmall }

/-- 'quirelaw3.UtfCounts', WHERE WHAT IT READS IS OF BULK AT MOST 1048576: true; the input reads as it did. -/
def utfCountsUptoRow : OpenClaim := { program := "ytajkbnjcjbinlaadoor", sum := "366c04422cfb4e3c8fbe30e7a21af2a77a4901aab3fdcce93ab3b8d2de57521b", func := "quire/quirelaw3.UtfCounts", spec := "utfCounts", unfollowed := true, recurses := true, named := ["unicode/utf8.first", "unicode/utf8.acceptRanges"], apart := false, laid := [("unicode/utf8.acceptRanges", laid_unicode_utf8_acceptRanges), ("unicode/utf8.first", laid_unicode_utf8_first)], narrowed := true }
def UtfCountsUptoSaid : Prop := utfCountsUptoRow.holds Tryd.pinned (OpenSpec.upto utfCountsSpec)

/-- 'quirelaw3.UtfCuts', WHERE WHAT IT READS IS OF BULK AT MOST 1048576: true; the input reads as it did. -/
def utfCutsUptoRow : OpenClaim := { program := "ytajkbnjcjbinlaadoor", sum := "366c04422cfb4e3c8fbe30e7a21af2a77a4901aab3fdcce93ab3b8d2de57521b", func := "quire/quirelaw3.UtfCuts", spec := "utfCuts", unfollowed := true, recurses := true, named := ["unicode/utf8.first", "unicode/utf8.acceptRanges"], apart := false, laid := [("unicode/utf8.acceptRanges", laid_unicode_utf8_acceptRanges), ("unicode/utf8.first", laid_unicode_utf8_first)], narrowed := true }
def UtfCutsUptoSaid : Prop := utfCutsUptoRow.holds Tryd.pinned (OpenSpec.upto utfCutsSpec)

/-- 'quirelaw3.UtfPlaces', WHERE WHAT IT READS IS OF BULK AT MOST 1048576: true; the input reads as it did. -/
def utfPlacesUptoRow : OpenClaim := { program := "ytajkbnjcjbinlaadoor", sum := "366c04422cfb4e3c8fbe30e7a21af2a77a4901aab3fdcce93ab3b8d2de57521b", func := "quire/quirelaw3.UtfPlaces", spec := "utfPlaces", unfollowed := true, recurses := true, named := ["unicode/utf8.first", "unicode/utf8.acceptRanges"], apart := false, laid := [("unicode/utf8.acceptRanges", laid_unicode_utf8_acceptRanges), ("unicode/utf8.first", laid_unicode_utf8_first)], narrowed := true }
def UtfPlacesUptoSaid : Prop := utfPlacesUptoRow.holds Tryd.pinned (OpenSpec.upto utfPlacesSpec)

/-- 'quirelaw3.UtfEach', WHERE WHAT IT READS IS OF BULK AT MOST 1048576: true; the input reads as it did. -/
def utfEachUptoRow : OpenClaim := { program := "ytajkbnjcjbinlaadoor", sum := "366c04422cfb4e3c8fbe30e7a21af2a77a4901aab3fdcce93ab3b8d2de57521b", func := "quire/quirelaw3.UtfEach", spec := "utfEach", unfollowed := true, recurses := true, named := ["unicode/utf8.first", "unicode/utf8.acceptRanges"], apart := false, laid := [("unicode/utf8.acceptRanges", laid_unicode_utf8_acceptRanges), ("unicode/utf8.first", laid_unicode_utf8_first)], narrowed := true }
def UtfEachUptoSaid : Prop := utfEachUptoRow.holds Tryd.pinned (OpenSpec.upto utfEachSpec)

/-- 'quirelaw3.UtfAdds', WHERE WHAT IT READS IS OF BULK AT MOST 1048576: true; the input reads as it did. -/
def utfAddsUptoRow : OpenClaim := { program := "ytajkbnjcjbinlaadoor", sum := "366c04422cfb4e3c8fbe30e7a21af2a77a4901aab3fdcce93ab3b8d2de57521b", func := "quire/quirelaw3.UtfAdds", spec := "utfAdds", unfollowed := true, recurses := true, named := ["unicode/utf8.first", "unicode/utf8.acceptRanges"], apart := false, laid := [("unicode/utf8.acceptRanges", laid_unicode_utf8_acceptRanges), ("unicode/utf8.first", laid_unicode_utf8_first)], narrowed := true }
def UtfAddsUptoSaid : Prop := utfAddsUptoRow.holds Tryd.pinned (OpenSpec.upto utfAddsSpec)

/-- 'quirelaw3.UtfWide', WHERE WHAT IT READS IS OF BULK AT MOST 1048576: true; the input reads as it did. -/
def utfWideUptoRow : OpenClaim := { program := "ytajkbnjcjbinlaadoor", sum := "366c04422cfb4e3c8fbe30e7a21af2a77a4901aab3fdcce93ab3b8d2de57521b", func := "quire/quirelaw3.UtfWide", spec := "utfWide", unfollowed := true, recurses := true, named := ["unicode/utf8.first", "unicode/utf8.acceptRanges"], apart := false, laid := [("unicode/utf8.acceptRanges", laid_unicode_utf8_acceptRanges), ("unicode/utf8.first", laid_unicode_utf8_first)], narrowed := true }
def UtfWideUptoSaid : Prop := utfWideUptoRow.holds Tryd.pinned (OpenSpec.upto utfWideSpec)

end Rows
end Go.Proofs.YtajkbnjcjbinlaaDoor
