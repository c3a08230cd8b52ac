/-
  No cell of these rows narrows 'for every input' (looked for: loops, veiled, ifaces, maps, wideKeys, modest, calm, conditions, laid).
  DERIVED. THE GIVEN ROWS OF THIS SEAT. 9 by the template 'for every input the law returns true; each argument reads behind the call as it read before'; 0 by the template 'total and deterministic' (their statements: YtmammcgdjjldbaaTotals.lean).
  GIVEN WITH THE SEED: the statements are not yours to turn. If you find one false, say at which input.
  Laid BY PROGRAM, IN A SANDBOX (cutbox-rows.mjs): the forced cells as the released guide's own fill.sh prints them over the translation 27ff44c4c160dbfa… (all of the seat's roots in one cut). By AI agents, Wed Nov 11 2026. No macro, syntax, notation, axiom, sorry.
-/
import Derived.Test.YtmammcgdjjldbaaChecked
import GoSem.Claim
import GoSem.ClaimJoined
import GoSem.ClaimMapViews
import Derived.JoinedTies
import Derived.KernelRfl
namespace Go.Proofs.Ytmammcgdjjldbaa
/- THE CELL 'sum', in the pinned program and in every row, IS THE sha256 OF THE DUMP (.gsa) THAT YtmammcgdjjldbaaProg.lean LOADS. Nothing in Lean hashes anything: it is a label: what it is worth is what the hold of that sum in a sandbox is worth. -/
noncomputable def Try.pinned : Pinned := { name := "ytmammcgdjjldbaa", sum := "27ff44c4c160dbfad9e91c7afee0174e1f81ca3c294c634a474f7ab448c54687", checked := Try.checked }
namespace Rows
def none {H : Type} : Left H := { results := [], args := [] }

/-- 'quirelaw9.SeqAnyOrder': WHATEVER THE INPUT: true; the input reads as it did. -/
def seqAnyOrderSpec : ChangeSpec := { name := "seqAnyOrder", fn := fun _ => fun
  | [d1, d2] => { results := [.lit (.bool true)], args := [d1, d2] }
  | _ => none }
def seqAnyOrderRow : OpenClaim := { program := "ytmammcgdjjldbaa", sum := "27ff44c4c160dbfad9e91c7afee0174e1f81ca3c294c634a474f7ab448c54687", func := "quire/quirelaw9.SeqAnyOrder", spec := "seqAnyOrder", inPlace := ["slices.overlaps[*quire/seq.node]"], unfollowed := true, recurses := true, plainKeys := false, apart := false }
def SeqAnyOrderSaid : Prop := seqAnyOrderRow.holds Try.pinned (OpenSpec.ofChange seqAnyOrderSpec)

/-- ITS FALSE NEIGHBOUR: 'it returns false'. Refute it at one input. -/
def seqAnyOrderWrong : ChangeSpec := { name := "seqAnyOrder", fn := fun _ => fun
  | [d1, d2] => { results := [.lit (.bool false)], args := [d1, d2] }
  | _ => none }
def SeqAnyOrderWrongFalsely : Prop := seqAnyOrderRow.holds Try.pinned (OpenSpec.ofChange seqAnyOrderWrong)

/-- 'quirelaw9.SeqBetween': WHATEVER THE INPUT: true; the input reads as it did. -/
def seqBetweenSpec : ChangeSpec := { name := "seqBetween", fn := fun _ => fun
  | [d1, d2, d3] => { results := [.lit (.bool true)], args := [d1, d2, d3] }
  | _ => none }
def seqBetweenRow : OpenClaim := { program := "ytmammcgdjjldbaa", sum := "27ff44c4c160dbfad9e91c7afee0174e1f81ca3c294c634a474f7ab448c54687", func := "quire/quirelaw9.SeqBetween", spec := "seqBetween", inPlace := ["slices.overlaps[*quire/seq.node]"], unfollowed := true, recurses := true, plainKeys := false, apart := false }
def SeqBetweenSaid : Prop := seqBetweenRow.holds Try.pinned (OpenSpec.ofChange seqBetweenSpec)

/-- ITS FALSE NEIGHBOUR: 'it returns false'. Refute it at one input. -/
def seqBetweenWrong : ChangeSpec := { name := "seqBetween", fn := fun _ => fun
  | [d1, d2, d3] => { results := [.lit (.bool false)], args := [d1, d2, d3] }
  | _ => none }
def SeqBetweenWrongFalsely : Prop := seqBetweenRow.holds Try.pinned (OpenSpec.ofChange seqBetweenWrong)

/-- 'quirelaw9.SeqStays': WHATEVER THE INPUT: true; the input reads as it did. -/
def seqStaysSpec : ChangeSpec := { name := "seqStays", fn := fun _ => fun
  | [d] => { results := [.lit (.bool true)], args := [d] }
  | _ => none }
def seqStaysRow : OpenClaim := { program := "ytmammcgdjjldbaa", sum := "27ff44c4c160dbfad9e91c7afee0174e1f81ca3c294c634a474f7ab448c54687", func := "quire/quirelaw9.SeqStays", spec := "seqStays", inPlace := ["slices.overlaps[*quire/seq.node]"], unfollowed := true, recurses := true, plainKeys := false, apart := false }
def SeqStaysSaid : Prop := seqStaysRow.holds Try.pinned (OpenSpec.ofChange seqStaysSpec)

/-- ITS FALSE NEIGHBOUR: 'it returns false'. Refute it at one input. -/
def seqStaysWrong : ChangeSpec := { name := "seqStays", fn := fun _ => fun
  | [d] => { results := [.lit (.bool false)], args := [d] }
  | _ => none }
def SeqStaysWrongFalsely : Prop := seqStaysRow.holds Try.pinned (OpenSpec.ofChange seqStaysWrong)

/-- 'quirelaw9.SeqRuns': WHATEVER THE INPUT: true; the input reads as it did. -/
def seqRunsSpec : ChangeSpec := { name := "seqRuns", fn := fun _ => fun
  | [d1, d2, d3, d4] => { results := [.lit (.bool true)], args := [d1, d2, d3, d4] }
  | _ => none }
def seqRunsRow : OpenClaim := { program := "ytmammcgdjjldbaa", sum := "27ff44c4c160dbfad9e91c7afee0174e1f81ca3c294c634a474f7ab448c54687", func := "quire/quirelaw9.SeqRuns", spec := "seqRuns", inPlace := ["slices.overlaps[*quire/seq.node]"], unfollowed := true, recurses := true, plainKeys := false, apart := false }
def SeqRunsSaid : Prop := seqRunsRow.holds Try.pinned (OpenSpec.ofChange seqRunsSpec)

/-- ITS FALSE NEIGHBOUR: 'it returns false'. Refute it at one input. -/
def seqRunsWrong : ChangeSpec := { name := "seqRuns", fn := fun _ => fun
  | [d1, d2, d3, d4] => { results := [.lit (.bool false)], args := [d1, d2, d3, d4] }
  | _ => none }
def SeqRunsWrongFalsely : Prop := seqRunsRow.holds Try.pinned (OpenSpec.ofChange seqRunsWrong)

/-- 'quirelaw9.SeqNoMix': WHATEVER THE INPUT: true; the input reads as it did. -/
def seqNoMixSpec : ChangeSpec := { name := "seqNoMix", fn := fun _ => fun
  | [d1, d2, d3, d4, d5] => { results := [.lit (.bool true)], args := [d1, d2, d3, d4, d5] }
  | _ => none }
def seqNoMixRow : OpenClaim := { program := "ytmammcgdjjldbaa", sum := "27ff44c4c160dbfad9e91c7afee0174e1f81ca3c294c634a474f7ab448c54687", func := "quire/quirelaw9.SeqNoMix", spec := "seqNoMix", inPlace := ["slices.overlaps[*quire/seq.node]"], unfollowed := true, recurses := true, plainKeys := false, apart := false }
def SeqNoMixSaid : Prop := seqNoMixRow.holds Try.pinned (OpenSpec.ofChange seqNoMixSpec)

/-- ITS FALSE NEIGHBOUR: 'it returns false'. Refute it at one input. -/
def seqNoMixWrong : ChangeSpec := { name := "seqNoMix", fn := fun _ => fun
  | [d1, d2, d3, d4, d5] => { results := [.lit (.bool false)], args := [d1, d2, d3, d4, d5] }
  | _ => none }
def SeqNoMixWrongFalsely : Prop := seqNoMixRow.holds Try.pinned (OpenSpec.ofChange seqNoMixWrong)

/-- 'quirelaw9.SeqLong': WHATEVER THE INPUT: true; the input reads as it did. -/
def seqLongSpec : ChangeSpec := { name := "seqLong", fn := fun _ => fun
  | [d1, d2] => { results := [.lit (.bool true)], args := [d1, d2] }
  | _ => none }
def seqLongRow : OpenClaim := { program := "ytmammcgdjjldbaa", sum := "27ff44c4c160dbfad9e91c7afee0174e1f81ca3c294c634a474f7ab448c54687", func := "quire/quirelaw9.SeqLong", spec := "seqLong", inPlace := ["slices.overlaps[*quire/seq.node]"], unfollowed := true, recurses := true, plainKeys := false, apart := false }
def SeqLongSaid : Prop := seqLongRow.holds Try.pinned (OpenSpec.ofChange seqLongSpec)

/-- ITS FALSE NEIGHBOUR: 'it returns false'. Refute it at one input. -/
def seqLongWrong : ChangeSpec := { name := "seqLong", fn := fun _ => fun
  | [d1, d2] => { results := [.lit (.bool false)], args := [d1, d2] }
  | _ => none }
def SeqLongWrongFalsely : Prop := seqLongRow.holds Try.pinned (OpenSpec.ofChange seqLongWrong)

/-- 'quirelaw9.SeqWalks': WHATEVER THE INPUT: true; the input reads as it did. -/
def seqWalksSpec : ChangeSpec := { name := "seqWalks", fn := fun _ => fun
  | [d1, d2] => { results := [.lit (.bool true)], args := [d1, d2] }
  | _ => none }
def seqWalksRow : OpenClaim := { program := "ytmammcgdjjldbaa", sum := "27ff44c4c160dbfad9e91c7afee0174e1f81ca3c294c634a474f7ab448c54687", func := "quire/quirelaw9.SeqWalks", spec := "seqWalks", inPlace := ["slices.overlaps[*quire/seq.node]"], unfollowed := true, recurses := true, plainKeys := false, apart := false }
def SeqWalksSaid : Prop := seqWalksRow.holds Try.pinned (OpenSpec.ofChange seqWalksSpec)

/-- ITS FALSE NEIGHBOUR: 'it returns false'. Refute it at one input. -/
def seqWalksWrong : ChangeSpec := { name := "seqWalks", fn := fun _ => fun
  | [d1, d2] => { results := [.lit (.bool false)], args := [d1, d2] }
  | _ => none }
def SeqWalksWrongFalsely : Prop := seqWalksRow.holds Try.pinned (OpenSpec.ofChange seqWalksWrong)

/-- 'quirelaw9.SeqPlays': WHATEVER THE INPUT: true; the input reads as it did. -/
def seqPlaysSpec : ChangeSpec := { name := "seqPlays", fn := fun _ => fun
  | [d] => { results := [.lit (.bool true)], args := [d] }
  | _ => none }
def seqPlaysRow : OpenClaim := { program := "ytmammcgdjjldbaa", sum := "27ff44c4c160dbfad9e91c7afee0174e1f81ca3c294c634a474f7ab448c54687", func := "quire/quirelaw9.SeqPlays", spec := "seqPlays", inPlace := ["slices.overlaps[*quire/seq.node]"], unfollowed := true, recurses := true, plainKeys := false, apart := false }
def SeqPlaysSaid : Prop := seqPlaysRow.holds Try.pinned (OpenSpec.ofChange seqPlaysSpec)

/-- ITS FALSE NEIGHBOUR: 'it returns false'. Refute it at one input. -/
def seqPlaysWrong : ChangeSpec := { name := "seqPlays", fn := fun _ => fun
  | [d] => { results := [.lit (.bool false)], args := [d] }
  | _ => none }
def SeqPlaysWrongFalsely : Prop := seqPlaysRow.holds Try.pinned (OpenSpec.ofChange seqPlaysWrong)

/-- 'quirelaw9.SeqCopies': WHATEVER THE INPUT: true; the input reads as it did. -/
def seqCopiesSpec : ChangeSpec := { name := "seqCopies", fn := fun _ => fun
  | [d1, d2] => { results := [.lit (.bool true)], args := [d1, d2] }
  | _ => none }
def seqCopiesRow : OpenClaim := { program := "ytmammcgdjjldbaa", sum := "27ff44c4c160dbfad9e91c7afee0174e1f81ca3c294c634a474f7ab448c54687", func := "quire/quirelaw9.SeqCopies", spec := "seqCopies", inPlace := ["slices.overlaps[*quire/seq.node]"], unfollowed := true, recurses := true, plainKeys := false, apart := false }
def SeqCopiesSaid : Prop := seqCopiesRow.holds Try.pinned (OpenSpec.ofChange seqCopiesSpec)

/-- ITS FALSE NEIGHBOUR: 'it returns false'. Refute it at one input. -/
def seqCopiesWrong : ChangeSpec := { name := "seqCopies", fn := fun _ => fun
  | [d1, d2] => { results := [.lit (.bool false)], args := [d1, d2] }
  | _ => none }
def SeqCopiesWrongFalsely : Prop := seqCopiesRow.holds Try.pinned (OpenSpec.ofChange seqCopiesWrong)

/- THE SECOND FORM. 'bulk': how many values and letters a reading holds, each counted each time it is reached (what is shared counts as often as it is met; a slice's spare places count too). A statement '..UptoSaid' is the law's where the arguments, and the package variables that the reading takes, are together of bulk at most 1048576: NARROWER than '..Said'. Prove '..Said' where nothing that the law and all that it calls make is longer than what came in: it says more and counts as full. Else prove '..UptoSaid'. A law counts once. -/
mutual
def uptoBulk {H : Type} : DataW H → Nat
  | .lit (.string bytes) => bytes.length + 1
  | .lit _ => 1
  | .nil => 1
  | .ptr d => uptoBulk d + 1
  | .slice elems spare => uptoBulkAll elems + uptoBulkAll spare + 1
  | .agg parts => uptoBulkAll parts + 1
  | .iface _ d => uptoBulk d + 1
  | .map entries => uptoBulkEntries entries + 1
  | .held _ => 1
def uptoBulkAll {H : Type} : List (DataW H) → Nat
  | [] => 0
  | d :: r => uptoBulk d + uptoBulkAll r
def uptoBulkEntries {H : Type} : List (Lit × DataW H) → Nat
  | [] => 0
  | x :: r => uptoBulkEntry x + uptoBulkEntries r
def uptoBulkEntry {H : Type} : Lit × DataW H → Nat
  | (.string bytes, d) => bytes.length + uptoBulk d + 1
  | (_, d) => uptoBulk d + 1
 end
def uptoSmall : (H : Type) → List (DataW H) → Bool := fun _ ds => decide (uptoBulkAll ds ≤ 1048576)
def OpenSpec.upto (s : _root_.Go.ChangeSpec) : _root_.Go.OpenSpec := { _root_.Go.OpenSpec.ofChange s with cond := some uptoSmall }

/-- 'quirelaw9.SeqAnyOrder', WHERE WHAT IT READS IS OF BULK AT MOST 1048576: true; the input reads as it did. -/
def seqAnyOrderUptoRow : OpenClaim := { program := "ytmammcgdjjldbaa", sum := "27ff44c4c160dbfad9e91c7afee0174e1f81ca3c294c634a474f7ab448c54687", func := "quire/quirelaw9.SeqAnyOrder", spec := "seqAnyOrder", inPlace := ["slices.overlaps[*quire/seq.node]"], unfollowed := true, recurses := true, plainKeys := false, apart := false, narrowed := true }
def SeqAnyOrderUptoSaid : Prop := seqAnyOrderUptoRow.holds Try.pinned (OpenSpec.upto seqAnyOrderSpec)

/-- 'quirelaw9.SeqBetween', WHERE WHAT IT READS IS OF BULK AT MOST 1048576: true; the input reads as it did. -/
def seqBetweenUptoRow : OpenClaim := { program := "ytmammcgdjjldbaa", sum := "27ff44c4c160dbfad9e91c7afee0174e1f81ca3c294c634a474f7ab448c54687", func := "quire/quirelaw9.SeqBetween", spec := "seqBetween", inPlace := ["slices.overlaps[*quire/seq.node]"], unfollowed := true, recurses := true, plainKeys := false, apart := false, narrowed := true }
def SeqBetweenUptoSaid : Prop := seqBetweenUptoRow.holds Try.pinned (OpenSpec.upto seqBetweenSpec)

/-- 'quirelaw9.SeqStays', WHERE WHAT IT READS IS OF BULK AT MOST 1048576: true; the input reads as it did. -/
def seqStaysUptoRow : OpenClaim := { program := "ytmammcgdjjldbaa", sum := "27ff44c4c160dbfad9e91c7afee0174e1f81ca3c294c634a474f7ab448c54687", func := "quire/quirelaw9.SeqStays", spec := "seqStays", inPlace := ["slices.overlaps[*quire/seq.node]"], unfollowed := true, recurses := true, plainKeys := false, apart := false, narrowed := true }
def SeqStaysUptoSaid : Prop := seqStaysUptoRow.holds Try.pinned (OpenSpec.upto seqStaysSpec)

/-- 'quirelaw9.SeqRuns', WHERE WHAT IT READS IS OF BULK AT MOST 1048576: true; the input reads as it did. -/
def seqRunsUptoRow : OpenClaim := { program := "ytmammcgdjjldbaa", sum := "27ff44c4c160dbfad9e91c7afee0174e1f81ca3c294c634a474f7ab448c54687", func := "quire/quirelaw9.SeqRuns", spec := "seqRuns", inPlace := ["slices.overlaps[*quire/seq.node]"], unfollowed := true, recurses := true, plainKeys := false, apart := false, narrowed := true }
def SeqRunsUptoSaid : Prop := seqRunsUptoRow.holds Try.pinned (OpenSpec.upto seqRunsSpec)

/-- 'quirelaw9.SeqNoMix', WHERE WHAT IT READS IS OF BULK AT MOST 1048576: true; the input reads as it did. -/
def seqNoMixUptoRow : OpenClaim := { program := "ytmammcgdjjldbaa", sum := "27ff44c4c160dbfad9e91c7afee0174e1f81ca3c294c634a474f7ab448c54687", func := "quire/quirelaw9.SeqNoMix", spec := "seqNoMix", inPlace := ["slices.overlaps[*quire/seq.node]"], unfollowed := true, recurses := true, plainKeys := false, apart := false, narrowed := true }
def SeqNoMixUptoSaid : Prop := seqNoMixUptoRow.holds Try.pinned (OpenSpec.upto seqNoMixSpec)

/-- 'quirelaw9.SeqLong', WHERE WHAT IT READS IS OF BULK AT MOST 1048576: true; the input reads as it did. -/
def seqLongUptoRow : OpenClaim := { program := "ytmammcgdjjldbaa", sum := "27ff44c4c160dbfad9e91c7afee0174e1f81ca3c294c634a474f7ab448c54687", func := "quire/quirelaw9.SeqLong", spec := "seqLong", inPlace := ["slices.overlaps[*quire/seq.node]"], unfollowed := true, recurses := true, plainKeys := false, apart := false, narrowed := true }
def SeqLongUptoSaid : Prop := seqLongUptoRow.holds Try.pinned (OpenSpec.upto seqLongSpec)

/-- 'quirelaw9.SeqWalks', WHERE WHAT IT READS IS OF BULK AT MOST 1048576: true; the input reads as it did. -/
def seqWalksUptoRow : OpenClaim := { program := "ytmammcgdjjldbaa", sum := "27ff44c4c160dbfad9e91c7afee0174e1f81ca3c294c634a474f7ab448c54687", func := "quire/quirelaw9.SeqWalks", spec := "seqWalks", inPlace := ["slices.overlaps[*quire/seq.node]"], unfollowed := true, recurses := true, plainKeys := false, apart := false, narrowed := true }
def SeqWalksUptoSaid : Prop := seqWalksUptoRow.holds Try.pinned (OpenSpec.upto seqWalksSpec)

/-- 'quirelaw9.SeqPlays', WHERE WHAT IT READS IS OF BULK AT MOST 1048576: true; the input reads as it did. -/
def seqPlaysUptoRow : OpenClaim := { program := "ytmammcgdjjldbaa", sum := "27ff44c4c160dbfad9e91c7afee0174e1f81ca3c294c634a474f7ab448c54687", func := "quire/quirelaw9.SeqPlays", spec := "seqPlays", inPlace := ["slices.overlaps[*quire/seq.node]"], unfollowed := true, recurses := true, plainKeys := false, apart := false, narrowed := true }
def SeqPlaysUptoSaid : Prop := seqPlaysUptoRow.holds Try.pinned (OpenSpec.upto seqPlaysSpec)

/-- 'quirelaw9.SeqCopies', WHERE WHAT IT READS IS OF BULK AT MOST 1048576: true; the input reads as it did. -/
def seqCopiesUptoRow : OpenClaim := { program := "ytmammcgdjjldbaa", sum := "27ff44c4c160dbfad9e91c7afee0174e1f81ca3c294c634a474f7ab448c54687", func := "quire/quirelaw9.SeqCopies", spec := "seqCopies", inPlace := ["slices.overlaps[*quire/seq.node]"], unfollowed := true, recurses := true, plainKeys := false, apart := false, narrowed := true }
def SeqCopiesUptoSaid : Prop := seqCopiesUptoRow.holds Try.pinned (OpenSpec.upto seqCopiesSpec)

end Rows
end Go.Proofs.Ytmammcgdjjldbaa
