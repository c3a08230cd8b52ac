/-
  No cell of these rows narrows 'for every input' (looked for: loops, veiled, ifaces, maps, wideKeys, modest, calm, conditions, laid).
  DERIVED. THE GIVEN ROWS OF THIS SEAT. 7 by the template 'for every input the law returns true; each argument reads behind the call as it read before'; 0 by the template 'total and deterministic' (their statements: YtoljcnlmockpcaaTotals.lean).
  GIVEN WITH THE SEED: the statements are not yours to turn. If you find one false, say at which input.
  Laid BY PROGRAM, IN A SANDBOX (cutbox-rows.mjs): the forced cells as the released guide's own fill.sh prints them over the translation 3f444fdc336c3d25… (all of the seat's roots in one cut). By AI agents, Wed Nov 11 2026. No macro, syntax, notation, axiom, sorry.
-/
import Derived.Test.YtoljcnlmockpcaaChecked
import GoSem.Claim
import GoSem.ClaimJoined
import GoSem.ClaimMapViews
import Derived.JoinedTies
import Derived.KernelRfl
namespace Go.Proofs.Ytoljcnlmockpcaa
/- THE CELL 'sum', in the pinned program and in every row, IS THE sha256 OF THE DUMP (.gsa) THAT YtoljcnlmockpcaaProg.lean LOADS. Nothing in Lean hashes anything: it is a label: what it is worth is what the hold of that sum in a sandbox is worth. -/
noncomputable def Try.pinned : Pinned := { name := "ytoljcnlmockpcaa", sum := "3f444fdc336c3d25f943226c2891046c7cdc583d84d58cbc015bc380410a12fe", checked := Try.checked }
namespace Rows
def none {H : Type} : Left H := { results := [], args := [] }

/-- 'quirelaw20.AwareAnyOrder': WHATEVER THE INPUT: true; the input reads as it did. -/
def awareAnyOrderSpec : ChangeSpec := { name := "awareAnyOrder", fn := fun _ => fun
  | [d1, d2] => { results := [.lit (.bool true)], args := [d1, d2] }
  | _ => none }
def awareAnyOrderRow : OpenClaim := { program := "ytoljcnlmockpcaa", sum := "3f444fdc336c3d25f943226c2891046c7cdc583d84d58cbc015bc380410a12fe", func := "quire/quirelaw20.AwareAnyOrder", spec := "awareAnyOrder", unfollowed := true, recurses := true, apart := false }
def AwareAnyOrderSaid : Prop := awareAnyOrderRow.holds Try.pinned (OpenSpec.ofChange awareAnyOrderSpec)

/-- ITS FALSE NEIGHBOUR: 'it returns false'. Refute it at one input. -/
def awareAnyOrderWrong : ChangeSpec := { name := "awareAnyOrder", fn := fun _ => fun
  | [d1, d2] => { results := [.lit (.bool false)], args := [d1, d2] }
  | _ => none }
def AwareAnyOrderWrongFalsely : Prop := awareAnyOrderRow.holds Try.pinned (OpenSpec.ofChange awareAnyOrderWrong)

/-- 'quirelaw20.AwareReads': WHATEVER THE INPUT: true; the input reads as it did. -/
def awareReadsSpec : ChangeSpec := { name := "awareReads", fn := fun _ => fun
  | [d1, d2] => { results := [.lit (.bool true)], args := [d1, d2] }
  | _ => none }
def awareReadsRow : OpenClaim := { program := "ytoljcnlmockpcaa", sum := "3f444fdc336c3d25f943226c2891046c7cdc583d84d58cbc015bc380410a12fe", func := "quire/quirelaw20.AwareReads", spec := "awareReads", unfollowed := true, recurses := true, apart := false }
def AwareReadsSaid : Prop := awareReadsRow.holds Try.pinned (OpenSpec.ofChange awareReadsSpec)

/-- ITS FALSE NEIGHBOUR: 'it returns false'. Refute it at one input. -/
def awareReadsWrong : ChangeSpec := { name := "awareReads", fn := fun _ => fun
  | [d1, d2] => { results := [.lit (.bool false)], args := [d1, d2] }
  | _ => none }
def AwareReadsWrongFalsely : Prop := awareReadsRow.holds Try.pinned (OpenSpec.ofChange awareReadsWrong)

/-- 'quirelaw20.AwareAll': WHATEVER THE INPUT: true; the input reads as it did. -/
def awareAllSpec : ChangeSpec := { name := "awareAll", fn := fun _ => fun
  | [d1, d2] => { results := [.lit (.bool true)], args := [d1, d2] }
  | _ => none }
def awareAllRow : OpenClaim := { program := "ytoljcnlmockpcaa", sum := "3f444fdc336c3d25f943226c2891046c7cdc583d84d58cbc015bc380410a12fe", func := "quire/quirelaw20.AwareAll", spec := "awareAll", unfollowed := true, recurses := true, apart := false }
def AwareAllSaid : Prop := awareAllRow.holds Try.pinned (OpenSpec.ofChange awareAllSpec)

/-- ITS FALSE NEIGHBOUR: 'it returns false'. Refute it at one input. -/
def awareAllWrong : ChangeSpec := { name := "awareAll", fn := fun _ => fun
  | [d1, d2] => { results := [.lit (.bool false)], args := [d1, d2] }
  | _ => none }
def AwareAllWrongFalsely : Prop := awareAllRow.holds Try.pinned (OpenSpec.ofChange awareAllWrong)

/-- 'quirelaw20.AwareBack': WHATEVER THE INPUT: true; the input reads as it did. -/
def awareBackSpec : ChangeSpec := { name := "awareBack", fn := fun _ => fun
  | [d1, d2, d3] => { results := [.lit (.bool true)], args := [d1, d2, d3] }
  | _ => none }
def awareBackRow : OpenClaim := { program := "ytoljcnlmockpcaa", sum := "3f444fdc336c3d25f943226c2891046c7cdc583d84d58cbc015bc380410a12fe", func := "quire/quirelaw20.AwareBack", spec := "awareBack", unfollowed := true, recurses := true, apart := false }
def AwareBackSaid : Prop := awareBackRow.holds Try.pinned (OpenSpec.ofChange awareBackSpec)

/-- ITS FALSE NEIGHBOUR: 'it returns false'. Refute it at one input. -/
def awareBackWrong : ChangeSpec := { name := "awareBack", fn := fun _ => fun
  | [d1, d2, d3] => { results := [.lit (.bool false)], args := [d1, d2, d3] }
  | _ => none }
def AwareBackWrongFalsely : Prop := awareBackRow.holds Try.pinned (OpenSpec.ofChange awareBackWrong)

/-- 'quirelaw20.AwarePlays': WHATEVER THE INPUT: true; the input reads as it did. -/
def awarePlaysSpec : ChangeSpec := { name := "awarePlays", fn := fun _ => fun
  | [d1, d2] => { results := [.lit (.bool true)], args := [d1, d2] }
  | _ => none }
def awarePlaysRow : OpenClaim := { program := "ytoljcnlmockpcaa", sum := "3f444fdc336c3d25f943226c2891046c7cdc583d84d58cbc015bc380410a12fe", func := "quire/quirelaw20.AwarePlays", spec := "awarePlays", unfollowed := true, recurses := true, apart := false }
def AwarePlaysSaid : Prop := awarePlaysRow.holds Try.pinned (OpenSpec.ofChange awarePlaysSpec)

/-- ITS FALSE NEIGHBOUR: 'it returns false'. Refute it at one input. -/
def awarePlaysWrong : ChangeSpec := { name := "awarePlays", fn := fun _ => fun
  | [d1, d2] => { results := [.lit (.bool false)], args := [d1, d2] }
  | _ => none }
def AwarePlaysWrongFalsely : Prop := awarePlaysRow.holds Try.pinned (OpenSpec.ofChange awarePlaysWrong)

/-- 'quirelaw20.AwareLasts': WHATEVER THE INPUT: true; the input reads as it did. -/
def awareLastsSpec : ChangeSpec := { name := "awareLasts", fn := fun _ => fun
  | [d1, d2, d3, d4] => { results := [.lit (.bool true)], args := [d1, d2, d3, d4] }
  | _ => none }
def awareLastsRow : OpenClaim := { program := "ytoljcnlmockpcaa", sum := "3f444fdc336c3d25f943226c2891046c7cdc583d84d58cbc015bc380410a12fe", func := "quire/quirelaw20.AwareLasts", spec := "awareLasts", unfollowed := true, recurses := true, apart := false }
def AwareLastsSaid : Prop := awareLastsRow.holds Try.pinned (OpenSpec.ofChange awareLastsSpec)

/-- ITS FALSE NEIGHBOUR: 'it returns false'. Refute it at one input. -/
def awareLastsWrong : ChangeSpec := { name := "awareLasts", fn := fun _ => fun
  | [d1, d2, d3, d4] => { results := [.lit (.bool false)], args := [d1, d2, d3, d4] }
  | _ => none }
def AwareLastsWrongFalsely : Prop := awareLastsRow.holds Try.pinned (OpenSpec.ofChange awareLastsWrong)

/-- 'quirelaw20.AwareEnds': WHATEVER THE INPUT: true; the input reads as it did. -/
def awareEndsSpec : ChangeSpec := { name := "awareEnds", fn := fun _ => fun
  | [d1, d2] => { results := [.lit (.bool true)], args := [d1, d2] }
  | _ => none }
def awareEndsRow : OpenClaim := { program := "ytoljcnlmockpcaa", sum := "3f444fdc336c3d25f943226c2891046c7cdc583d84d58cbc015bc380410a12fe", func := "quire/quirelaw20.AwareEnds", spec := "awareEnds", unfollowed := true, recurses := true, apart := false }
def AwareEndsSaid : Prop := awareEndsRow.holds Try.pinned (OpenSpec.ofChange awareEndsSpec)

/-- ITS FALSE NEIGHBOUR: 'it returns false'. Refute it at one input. -/
def awareEndsWrong : ChangeSpec := { name := "awareEnds", fn := fun _ => fun
  | [d1, d2] => { results := [.lit (.bool false)], args := [d1, d2] }
  | _ => none }
def AwareEndsWrongFalsely : Prop := awareEndsRow.holds Try.pinned (OpenSpec.ofChange awareEndsWrong)

/- THE SECOND FORM. 'bulk': how many values and letters a reading holds, each counted each time it is reached (what is shared counts as often as it is met; a slice's spare places count too). A statement '..UptoSaid' is the law's where the arguments, and the package variables that the reading takes, are together of bulk at most 1048576: NARROWER than '..Said'. Prove '..Said' where nothing that the law and all that it calls make is longer than what came in: it says more and counts as full. Else prove '..UptoSaid'. A law counts once. -/
mutual
def uptoBulk {H : Type} : DataW H → Nat
  | .lit (.string bytes) => bytes.length + 1
  | .lit _ => 1
  | .nil => 1
  | .ptr d => uptoBulk d + 1
  | .slice elems spare => uptoBulkAll elems + uptoBulkAll spare + 1
  | .agg parts => uptoBulkAll parts + 1
  | .iface _ d => uptoBulk d + 1
  | .map entries => uptoBulkEntries entries + 1
  | .held _ => 1
def uptoBulkAll {H : Type} : List (DataW H) → Nat
  | [] => 0
  | d :: r => uptoBulk d + uptoBulkAll r
def uptoBulkEntries {H : Type} : List (Lit × DataW H) → Nat
  | [] => 0
  | x :: r => uptoBulkEntry x + uptoBulkEntries r
def uptoBulkEntry {H : Type} : Lit × DataW H → Nat
  | (.string bytes, d) => bytes.length + uptoBulk d + 1
  | (_, d) => uptoBulk d + 1
 end
def uptoSmall : (H : Type) → List (DataW H) → Bool := fun _ ds => decide (uptoBulkAll ds ≤ 1048576)
def OpenSpec.upto (s : _root_.Go.ChangeSpec) : _root_.Go.OpenSpec := { _root_.Go.OpenSpec.ofChange s with cond := some uptoSmall }

/-- 'quirelaw20.AwareAnyOrder', WHERE WHAT IT READS IS OF BULK AT MOST 1048576: true; the input reads as it did. -/
def awareAnyOrderUptoRow : OpenClaim := { program := "ytoljcnlmockpcaa", sum := "3f444fdc336c3d25f943226c2891046c7cdc583d84d58cbc015bc380410a12fe", func := "quire/quirelaw20.AwareAnyOrder", spec := "awareAnyOrder", unfollowed := true, recurses := true, apart := false, narrowed := true }
def AwareAnyOrderUptoSaid : Prop := awareAnyOrderUptoRow.holds Try.pinned (OpenSpec.upto awareAnyOrderSpec)

/-- 'quirelaw20.AwareReads', WHERE WHAT IT READS IS OF BULK AT MOST 1048576: true; the input reads as it did. -/
def awareReadsUptoRow : OpenClaim := { program := "ytoljcnlmockpcaa", sum := "3f444fdc336c3d25f943226c2891046c7cdc583d84d58cbc015bc380410a12fe", func := "quire/quirelaw20.AwareReads", spec := "awareReads", unfollowed := true, recurses := true, apart := false, narrowed := true }
def AwareReadsUptoSaid : Prop := awareReadsUptoRow.holds Try.pinned (OpenSpec.upto awareReadsSpec)

/-- 'quirelaw20.AwareAll', WHERE WHAT IT READS IS OF BULK AT MOST 1048576: true; the input reads as it did. -/
def awareAllUptoRow : OpenClaim := { program := "ytoljcnlmockpcaa", sum := "3f444fdc336c3d25f943226c2891046c7cdc583d84d58cbc015bc380410a12fe", func := "quire/quirelaw20.AwareAll", spec := "awareAll", unfollowed := true, recurses := true, apart := false, narrowed := true }
def AwareAllUptoSaid : Prop := awareAllUptoRow.holds Try.pinned (OpenSpec.upto awareAllSpec)

/-- 'quirelaw20.AwareBack', WHERE WHAT IT READS IS OF BULK AT MOST 1048576: true; the input reads as it did. -/
def awareBackUptoRow : OpenClaim := { program := "ytoljcnlmockpcaa", sum := "3f444fdc336c3d25f943226c2891046c7cdc583d84d58cbc015bc380410a12fe", func := "quire/quirelaw20.AwareBack", spec := "awareBack", unfollowed := true, recurses := true, apart := false, narrowed := true }
def AwareBackUptoSaid : Prop := awareBackUptoRow.holds Try.pinned (OpenSpec.upto awareBackSpec)

/-- 'quirelaw20.AwarePlays', WHERE WHAT IT READS IS OF BULK AT MOST 1048576: true; the input reads as it did. -/
def awarePlaysUptoRow : OpenClaim := { program := "ytoljcnlmockpcaa", sum := "3f444fdc336c3d25f943226c2891046c7cdc583d84d58cbc015bc380410a12fe", func := "quire/quirelaw20.AwarePlays", spec := "awarePlays", unfollowed := true, recurses := true, apart := false, narrowed := true }
def AwarePlaysUptoSaid : Prop := awarePlaysUptoRow.holds Try.pinned (OpenSpec.upto awarePlaysSpec)

/-- 'quirelaw20.AwareLasts', WHERE WHAT IT READS IS OF BULK AT MOST 1048576: true; the input reads as it did. -/
def awareLastsUptoRow : OpenClaim := { program := "ytoljcnlmockpcaa", sum := "3f444fdc336c3d25f943226c2891046c7cdc583d84d58cbc015bc380410a12fe", func := "quire/quirelaw20.AwareLasts", spec := "awareLasts", unfollowed := true, recurses := true, apart := false, narrowed := true }
def AwareLastsUptoSaid : Prop := awareLastsUptoRow.holds Try.pinned (OpenSpec.upto awareLastsSpec)

/-- 'quirelaw20.AwareEnds', WHERE WHAT IT READS IS OF BULK AT MOST 1048576: true; the input reads as it did. -/
def awareEndsUptoRow : OpenClaim := { program := "ytoljcnlmockpcaa", sum := "3f444fdc336c3d25f943226c2891046c7cdc583d84d58cbc015bc380410a12fe", func := "quire/quirelaw20.AwareEnds", spec := "awareEnds", unfollowed := true, recurses := true, apart := false, narrowed := true }
def AwareEndsUptoSaid : Prop := awareEndsUptoRow.holds Try.pinned (OpenSpec.upto awareEndsSpec)

end Rows
end Go.Proofs.Ytoljcnlmockpcaa
