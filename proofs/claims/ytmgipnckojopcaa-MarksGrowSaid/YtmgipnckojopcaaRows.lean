/-
  No cell of these rows narrows 'for every input' (looked for: loops, veiled, ifaces, maps, wideKeys, modest, calm, conditions, laid).
  DERIVED. THE GIVEN ROWS OF THIS SEAT. 4 by the template 'for every input the law returns true; each argument reads behind the call as it read before'; 0 by the template 'total and deterministic' (their statements: YtmgipnckojopcaaTotals.lean).
  GIVEN WITH THE SEED: the statements are not yours to turn. If you find one false, say at which input.
  Laid BY PROGRAM, IN A SANDBOX (cutbox-rows.mjs): the forced cells as the released guide's own fill.sh prints them over the translation 5c16e822298a0851… (all of the seat's roots in one cut). By AI agents, Wed Nov 11 2026. No macro, syntax, notation, axiom, sorry.
-/
import Derived.Test.YtmgipnckojopcaaChecked
import GoSem.Claim
import GoSem.ClaimJoined
import GoSem.ClaimMapViews
import Derived.JoinedTies
import Derived.KernelRfl
namespace Go.Proofs.Ytmgipnckojopcaa
/- THE CELL 'sum', in the pinned program and in every row, IS THE sha256 OF THE DUMP (.gsa) THAT YtmgipnckojopcaaProg.lean LOADS. Nothing in Lean hashes anything: it is a label: what it is worth is what the hold of that sum in a sandbox is worth. -/
noncomputable def Try.pinned : Pinned := { name := "ytmgipnckojopcaa", sum := "5c16e822298a08512b0ca26c46372f98a102e3be40d5e8a76a9aaa1304f3917b", checked := Try.checked }
namespace Rows
def none {H : Type} : Left H := { results := [], args := [] }

/-- 'quirelaw11.MarksSame': WHATEVER THE INPUT: true; the input reads as it did. -/
def marksSameSpec : ChangeSpec := { name := "marksSame", fn := fun _ => fun
  | [d1, d2, d3, d4] => { results := [.lit (.bool true)], args := [d1, d2, d3, d4] }
  | _ => none }
def marksSameRow : OpenClaim := { program := "ytmgipnckojopcaa", sum := "5c16e822298a08512b0ca26c46372f98a102e3be40d5e8a76a9aaa1304f3917b", func := "quire/quirelaw11.MarksSame", spec := "marksSame", inPlace := ["slices.overlaps[*quire/seq.node]", "math.Float64frombits", "math.Float64bits", "internal/bytealg.abigen_runtime_cmpstring"], unfollowed := true, recurses := true, plainKeys := false, apart := false }
def MarksSameSaid : Prop := marksSameRow.holds Try.pinned (OpenSpec.ofChange marksSameSpec)

/-- ITS FALSE NEIGHBOUR: 'it returns false'. Refute it at one input. -/
def marksSameWrong : ChangeSpec := { name := "marksSame", fn := fun _ => fun
  | [d1, d2, d3, d4] => { results := [.lit (.bool false)], args := [d1, d2, d3, d4] }
  | _ => none }
def MarksSameWrongFalsely : Prop := marksSameRow.holds Try.pinned (OpenSpec.ofChange marksSameWrong)

/-- 'quirelaw11.MarksPlace': WHATEVER THE INPUT: true; the input reads as it did. -/
def marksPlaceSpec : ChangeSpec := { name := "marksPlace", fn := fun _ => fun
  | [d1, d2, d3, d4] => { results := [.lit (.bool true)], args := [d1, d2, d3, d4] }
  | _ => none }
def marksPlaceRow : OpenClaim := { program := "ytmgipnckojopcaa", sum := "5c16e822298a08512b0ca26c46372f98a102e3be40d5e8a76a9aaa1304f3917b", func := "quire/quirelaw11.MarksPlace", spec := "marksPlace", inPlace := ["slices.overlaps[*quire/seq.node]", "math.Float64frombits", "math.Float64bits", "internal/bytealg.abigen_runtime_cmpstring"], unfollowed := true, recurses := true, plainKeys := false, apart := false }
def MarksPlaceSaid : Prop := marksPlaceRow.holds Try.pinned (OpenSpec.ofChange marksPlaceSpec)

/-- ITS FALSE NEIGHBOUR: 'it returns false'. Refute it at one input. -/
def marksPlaceWrong : ChangeSpec := { name := "marksPlace", fn := fun _ => fun
  | [d1, d2, d3, d4] => { results := [.lit (.bool false)], args := [d1, d2, d3, d4] }
  | _ => none }
def MarksPlaceWrongFalsely : Prop := marksPlaceRow.holds Try.pinned (OpenSpec.ofChange marksPlaceWrong)

/-- 'quirelaw11.MarksGrow': WHATEVER THE INPUT: true; the input reads as it did. -/
def marksGrowSpec : ChangeSpec := { name := "marksGrow", fn := fun _ => fun
  | [d1, d2, d3] => { results := [.lit (.bool true)], args := [d1, d2, d3] }
  | _ => none }
def marksGrowRow : OpenClaim := { program := "ytmgipnckojopcaa", sum := "5c16e822298a08512b0ca26c46372f98a102e3be40d5e8a76a9aaa1304f3917b", func := "quire/quirelaw11.MarksGrow", spec := "marksGrow", inPlace := ["slices.overlaps[*quire/seq.node]", "math.Float64frombits", "math.Float64bits", "internal/bytealg.abigen_runtime_cmpstring"], unfollowed := true, recurses := true, plainKeys := false, apart := false }
def MarksGrowSaid : Prop := marksGrowRow.holds Try.pinned (OpenSpec.ofChange marksGrowSpec)

/-- ITS FALSE NEIGHBOUR: 'it returns false'. Refute it at one input. -/
def marksGrowWrong : ChangeSpec := { name := "marksGrow", fn := fun _ => fun
  | [d1, d2, d3] => { results := [.lit (.bool false)], args := [d1, d2, d3] }
  | _ => none }
def MarksGrowWrongFalsely : Prop := marksGrowRow.holds Try.pinned (OpenSpec.ofChange marksGrowWrong)

/-- 'quirelaw11.MarksEnds': WHATEVER THE INPUT: true; the input reads as it did. -/
def marksEndsSpec : ChangeSpec := { name := "marksEnds", fn := fun _ => fun
  | [d1, d2] => { results := [.lit (.bool true)], args := [d1, d2] }
  | _ => none }
def marksEndsRow : OpenClaim := { program := "ytmgipnckojopcaa", sum := "5c16e822298a08512b0ca26c46372f98a102e3be40d5e8a76a9aaa1304f3917b", func := "quire/quirelaw11.MarksEnds", spec := "marksEnds", inPlace := ["slices.overlaps[*quire/seq.node]", "math.Float64frombits", "math.Float64bits", "internal/bytealg.abigen_runtime_cmpstring"], unfollowed := true, recurses := true, plainKeys := false, apart := false }
def MarksEndsSaid : Prop := marksEndsRow.holds Try.pinned (OpenSpec.ofChange marksEndsSpec)

/-- ITS FALSE NEIGHBOUR: 'it returns false'. Refute it at one input. -/
def marksEndsWrong : ChangeSpec := { name := "marksEnds", fn := fun _ => fun
  | [d1, d2] => { results := [.lit (.bool false)], args := [d1, d2] }
  | _ => none }
def MarksEndsWrongFalsely : Prop := marksEndsRow.holds Try.pinned (OpenSpec.ofChange marksEndsWrong)

/- THE SECOND FORM. 'bulk': how many values and letters a reading holds, each counted each time it is reached (what is shared counts as often as it is met; a slice's spare places count too). A statement '..UptoSaid' is the law's where the arguments, and the package variables that the reading takes, are together of bulk at most 1048576: NARROWER than '..Said'. Prove '..Said' where nothing that the law and all that it calls make is longer than what came in: it says more and counts as full. Else prove '..UptoSaid'. A law counts once. -/
mutual
def uptoBulk {H : Type} : DataW H → Nat
  | .lit (.string bytes) => bytes.length + 1
  | .lit _ => 1
  | .nil => 1
  | .ptr d => uptoBulk d + 1
  | .slice elems spare => uptoBulkAll elems + uptoBulkAll spare + 1
  | .agg parts => uptoBulkAll parts + 1
  | .iface _ d => uptoBulk d + 1
  | .map entries => uptoBulkEntries entries + 1
  | .held _ => 1
def uptoBulkAll {H : Type} : List (DataW H) → Nat
  | [] => 0
  | d :: r => uptoBulk d + uptoBulkAll r
def uptoBulkEntries {H : Type} : List (Lit × DataW H) → Nat
  | [] => 0
  | x :: r => uptoBulkEntry x + uptoBulkEntries r
def uptoBulkEntry {H : Type} : Lit × DataW H → Nat
  | (.string bytes, d) => bytes.length + uptoBulk d + 1
  | (_, d) => uptoBulk d + 1
 end
def uptoSmall : (H : Type) → List (DataW H) → Bool := fun _ ds => decide (uptoBulkAll ds ≤ 1048576)
def OpenSpec.upto (s : _root_.Go.ChangeSpec) : _root_.Go.OpenSpec := { _root_.Go.OpenSpec.ofChange s with cond := some uptoSmall }

/-- 'quirelaw11.MarksSame', WHERE WHAT IT READS IS OF BULK AT MOST 1048576: true; the input reads as it did. -/
def marksSameUptoRow : OpenClaim := { program := "ytmgipnckojopcaa", sum := "5c16e822298a08512b0ca26c46372f98a102e3be40d5e8a76a9aaa1304f3917b", func := "quire/quirelaw11.MarksSame", spec := "marksSame", inPlace := ["slices.overlaps[*quire/seq.node]", "math.Float64frombits", "math.Float64bits", "internal/bytealg.abigen_runtime_cmpstring"], unfollowed := true, recurses := true, plainKeys := false, apart := false, narrowed := true }
def MarksSameUptoSaid : Prop := marksSameUptoRow.holds Try.pinned (OpenSpec.upto marksSameSpec)

/-- 'quirelaw11.MarksPlace', WHERE WHAT IT READS IS OF BULK AT MOST 1048576: true; the input reads as it did. -/
def marksPlaceUptoRow : OpenClaim := { program := "ytmgipnckojopcaa", sum := "5c16e822298a08512b0ca26c46372f98a102e3be40d5e8a76a9aaa1304f3917b", func := "quire/quirelaw11.MarksPlace", spec := "marksPlace", inPlace := ["slices.overlaps[*quire/seq.node]", "math.Float64frombits", "math.Float64bits", "internal/bytealg.abigen_runtime_cmpstring"], unfollowed := true, recurses := true, plainKeys := false, apart := false, narrowed := true }
def MarksPlaceUptoSaid : Prop := marksPlaceUptoRow.holds Try.pinned (OpenSpec.upto marksPlaceSpec)

/-- 'quirelaw11.MarksGrow', WHERE WHAT IT READS IS OF BULK AT MOST 1048576: true; the input reads as it did. -/
def marksGrowUptoRow : OpenClaim := { program := "ytmgipnckojopcaa", sum := "5c16e822298a08512b0ca26c46372f98a102e3be40d5e8a76a9aaa1304f3917b", func := "quire/quirelaw11.MarksGrow", spec := "marksGrow", inPlace := ["slices.overlaps[*quire/seq.node]", "math.Float64frombits", "math.Float64bits", "internal/bytealg.abigen_runtime_cmpstring"], unfollowed := true, recurses := true, plainKeys := false, apart := false, narrowed := true }
def MarksGrowUptoSaid : Prop := marksGrowUptoRow.holds Try.pinned (OpenSpec.upto marksGrowSpec)

/-- 'quirelaw11.MarksEnds', WHERE WHAT IT READS IS OF BULK AT MOST 1048576: true; the input reads as it did. -/
def marksEndsUptoRow : OpenClaim := { program := "ytmgipnckojopcaa", sum := "5c16e822298a08512b0ca26c46372f98a102e3be40d5e8a76a9aaa1304f3917b", func := "quire/quirelaw11.MarksEnds", spec := "marksEnds", inPlace := ["slices.overlaps[*quire/seq.node]", "math.Float64frombits", "math.Float64bits", "internal/bytealg.abigen_runtime_cmpstring"], unfollowed := true, recurses := true, plainKeys := false, apart := false, narrowed := true }
def MarksEndsUptoSaid : Prop := marksEndsUptoRow.holds Try.pinned (OpenSpec.upto marksEndsSpec)

end Rows
end Go.Proofs.Ytmgipnckojopcaa
