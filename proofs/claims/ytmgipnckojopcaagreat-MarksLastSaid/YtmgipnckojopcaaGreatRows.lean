/-
  No cell of these rows narrows 'for every input' (looked for: loops, veiled, ifaces, maps, wideKeys, modest, calm, conditions, laid).
  DERIVED. THE GIVEN ROWS OF THIS SEAT. 3 by the template 'for every input the law returns true; each argument reads behind the call as it read before'; 0 by the template 'total and deterministic' (their statements: YtmgipnckojopcaaGreatTotals.lean).
  GIVEN WITH THE SEED: the statements are not yours to turn. If you find one false, say at which input.
  Laid BY PROGRAM, IN A SANDBOX (cutbox-rows.mjs): the forced cells as the released guide's own fill.sh prints them over the translation 645b2c9e428f2dc9… (all of the seat's roots in one cut). By AI agents, Wed Nov 11 2026. No macro, syntax, notation, axiom, sorry.
-/
import Derived.Test.YtmgipnckojopcaaGreatChecked
import GoSem.Claim
import GoSem.ClaimJoined
import GoSem.ClaimMapViews
import Derived.JoinedTies
import Derived.KernelRfl
namespace Go.Proofs.YtmgipnckojopcaaGreat
/- THE CELL 'sum', in the pinned program and in every row, IS THE sha256 OF THE DUMP (.gsa) THAT YtmgipnckojopcaaGreatProg.lean LOADS. Nothing in Lean hashes anything: it is a label: what it is worth is what the hold of that sum in a sandbox is worth. -/
noncomputable def Tryz.pinned : Pinned := { name := "ytmgipnckojopcaagreat", sum := "645b2c9e428f2dc9b25882784bb0a28aa1657e207c574fde14e57ae94b83405f", checked := Tryz.checked }
namespace Rows
def none {H : Type} : Left H := { results := [], args := [] }

/-- 'quirelaw11.MarksShow': WHATEVER THE INPUT: true; the input reads as it did. -/
def marksShowSpec : ChangeSpec := { name := "marksShow", fn := fun _ => fun
  | [d1, d2] => { results := [.lit (.bool true)], args := [d1, d2] }
  | _ => none }
def marksShowRow : OpenClaim := { program := "ytmgipnckojopcaagreat", sum := "645b2c9e428f2dc9b25882784bb0a28aa1657e207c574fde14e57ae94b83405f", func := "quire/quirelaw11.MarksShow", spec := "marksShow", inPlace := ["slices.overlaps[*quire/seq.node]", "math.Float64frombits", "math.Float64bits", "internal/bytealg.abigen_runtime_cmpstring"], unfollowed := true, recurses := true, plainKeys := false, apart := false }
def MarksShowSaid : Prop := marksShowRow.holds Tryz.pinned (OpenSpec.ofChange marksShowSpec)

/-- ITS FALSE NEIGHBOUR: 'it returns false'. Refute it at one input. -/
def marksShowWrong : ChangeSpec := { name := "marksShow", fn := fun _ => fun
  | [d1, d2] => { results := [.lit (.bool false)], args := [d1, d2] }
  | _ => none }
def MarksShowWrongFalsely : Prop := marksShowRow.holds Tryz.pinned (OpenSpec.ofChange marksShowWrong)

/-- 'quirelaw11.MarksOrder': WHATEVER THE INPUT: true; the input reads as it did. -/
def marksOrderSpec : ChangeSpec := { name := "marksOrder", fn := fun _ => fun
  | [d1, d2, d3] => { results := [.lit (.bool true)], args := [d1, d2, d3] }
  | _ => none }
def marksOrderRow : OpenClaim := { program := "ytmgipnckojopcaagreat", sum := "645b2c9e428f2dc9b25882784bb0a28aa1657e207c574fde14e57ae94b83405f", func := "quire/quirelaw11.MarksOrder", spec := "marksOrder", inPlace := ["slices.overlaps[*quire/seq.node]", "math.Float64frombits", "math.Float64bits", "internal/bytealg.abigen_runtime_cmpstring"], unfollowed := true, recurses := true, plainKeys := false, apart := false }
def MarksOrderSaid : Prop := marksOrderRow.holds Tryz.pinned (OpenSpec.ofChange marksOrderSpec)

/-- ITS FALSE NEIGHBOUR: 'it returns false'. Refute it at one input. -/
def marksOrderWrong : ChangeSpec := { name := "marksOrder", fn := fun _ => fun
  | [d1, d2, d3] => { results := [.lit (.bool false)], args := [d1, d2, d3] }
  | _ => none }
def MarksOrderWrongFalsely : Prop := marksOrderRow.holds Tryz.pinned (OpenSpec.ofChange marksOrderWrong)

/-- 'quirelaw11.MarksLast': WHATEVER THE INPUT: true; the input reads as it did. -/
def marksLastSpec : ChangeSpec := { name := "marksLast", fn := fun _ => fun
  | [d1, d2, d3, d4, d5] => { results := [.lit (.bool true)], args := [d1, d2, d3, d4, d5] }
  | _ => none }
def marksLastRow : OpenClaim := { program := "ytmgipnckojopcaagreat", sum := "645b2c9e428f2dc9b25882784bb0a28aa1657e207c574fde14e57ae94b83405f", func := "quire/quirelaw11.MarksLast", spec := "marksLast", inPlace := ["slices.overlaps[*quire/seq.node]", "math.Float64frombits", "math.Float64bits", "internal/bytealg.abigen_runtime_cmpstring"], unfollowed := true, recurses := true, plainKeys := false, apart := false }
def MarksLastSaid : Prop := marksLastRow.holds Tryz.pinned (OpenSpec.ofChange marksLastSpec)

/-- ITS FALSE NEIGHBOUR: 'it returns false'. Refute it at one input. -/
def marksLastWrong : ChangeSpec := { name := "marksLast", fn := fun _ => fun
  | [d1, d2, d3, d4, d5] => { results := [.lit (.bool false)], args := [d1, d2, d3, d4, d5] }
  | _ => none }
def MarksLastWrongFalsely : Prop := marksLastRow.holds Tryz.pinned (OpenSpec.ofChange marksLastWrong)

/- THE SECOND FORM. 'bulk': how many values and letters a reading holds, each counted each time it is reached (what is shared counts as often as it is met; a slice's spare places count too). A statement '..UptoSaid' is the law's where the arguments, and the package variables that the reading takes, are together of bulk at most 1048576: NARROWER than '..Said'. Prove '..Said' where nothing that the law and all that it calls make is longer than what came in: it says more and counts as full. Else prove '..UptoSaid'. A law counts once. -/
mutual
def uptoBulk {H : Type} : DataW H → Nat
  | .lit (.string bytes) => bytes.length + 1
  | .lit _ => 1
  | .nil => 1
  | .ptr d => uptoBulk d + 1
  | .slice elems spare => uptoBulkAll elems + uptoBulkAll spare + 1
  | .agg parts => uptoBulkAll parts + 1
  | .iface _ d => uptoBulk d + 1
  | .map entries => uptoBulkEntries entries + 1
  | .held _ => 1
def uptoBulkAll {H : Type} : List (DataW H) → Nat
  | [] => 0
  | d :: r => uptoBulk d + uptoBulkAll r
def uptoBulkEntries {H : Type} : List (Lit × DataW H) → Nat
  | [] => 0
  | x :: r => uptoBulkEntry x + uptoBulkEntries r
def uptoBulkEntry {H : Type} : Lit × DataW H → Nat
  | (.string bytes, d) => bytes.length + uptoBulk d + 1
  | (_, d) => uptoBulk d + 1
 end
def uptoSmall : (H : Type) → List (DataW H) → Bool := fun _ ds => decide (uptoBulkAll ds ≤ 1048576)
def OpenSpec.upto (s : _root_.Go.ChangeSpec) : _root_.Go.OpenSpec := { _root_.Go.OpenSpec.ofChange s with cond := some uptoSmall }

/-- 'quirelaw11.MarksShow', WHERE WHAT IT READS IS OF BULK AT MOST 1048576: true; the input reads as it did. -/
def marksShowUptoRow : OpenClaim := { program := "ytmgipnckojopcaagreat", sum := "645b2c9e428f2dc9b25882784bb0a28aa1657e207c574fde14e57ae94b83405f", func := "quire/quirelaw11.MarksShow", spec := "marksShow", inPlace := ["slices.overlaps[*quire/seq.node]", "math.Float64frombits", "math.Float64bits", "internal/bytealg.abigen_runtime_cmpstring"], unfollowed := true, recurses := true, plainKeys := false, apart := false, narrowed := true }
def MarksShowUptoSaid : Prop := marksShowUptoRow.holds Tryz.pinned (OpenSpec.upto marksShowSpec)

/-- 'quirelaw11.MarksOrder', WHERE WHAT IT READS IS OF BULK AT MOST 1048576: true; the input reads as it did. -/
def marksOrderUptoRow : OpenClaim := { program := "ytmgipnckojopcaagreat", sum := "645b2c9e428f2dc9b25882784bb0a28aa1657e207c574fde14e57ae94b83405f", func := "quire/quirelaw11.MarksOrder", spec := "marksOrder", inPlace := ["slices.overlaps[*quire/seq.node]", "math.Float64frombits", "math.Float64bits", "internal/bytealg.abigen_runtime_cmpstring"], unfollowed := true, recurses := true, plainKeys := false, apart := false, narrowed := true }
def MarksOrderUptoSaid : Prop := marksOrderUptoRow.holds Tryz.pinned (OpenSpec.upto marksOrderSpec)

/-- 'quirelaw11.MarksLast', WHERE WHAT IT READS IS OF BULK AT MOST 1048576: true; the input reads as it did. -/
def marksLastUptoRow : OpenClaim := { program := "ytmgipnckojopcaagreat", sum := "645b2c9e428f2dc9b25882784bb0a28aa1657e207c574fde14e57ae94b83405f", func := "quire/quirelaw11.MarksLast", spec := "marksLast", inPlace := ["slices.overlaps[*quire/seq.node]", "math.Float64frombits", "math.Float64bits", "internal/bytealg.abigen_runtime_cmpstring"], unfollowed := true, recurses := true, plainKeys := false, apart := false, narrowed := true }
def MarksLastUptoSaid : Prop := marksLastUptoRow.holds Tryz.pinned (OpenSpec.upto marksLastSpec)

end Rows
end Go.Proofs.YtmgipnckojopcaaGreat
