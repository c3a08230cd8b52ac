/- The walks of package value: which values are taken. -/
import Derived.Test.YtmgipnckojopcaaGreatPcJPlaceToSqW
import Derived.Test.YtmgipnckojopcaaGreatPcVRunes
namespace Go.Proofs.YtmgipnckojopcaaGreat
set_option maxRecDepth 100000
namespace Val
open Go Go.RowKit Sx Fl
attribute [local irreducible] W Lst Qst Pu seqQ blkQ rndQ cutQ retQ Does Enters IntKind.wrap bits sb World.alloc World.putObj Blk
/-- Is a value taken? -/
def okV (x : Vl) : Bool :=
  if x.k = 0 ∨ x.k = 5 then x.n = 0 ∧ x.f = 0 ∧ x.s = ⟨#[]⟩
  else if x.k = 1 then (x.n = 0 ∨ x.n = 1) ∧ x.f = 0 ∧ x.s = ⟨#[]⟩
  else if x.k = 2 then x.f = 0 ∧ x.s = ⟨#[]⟩
  else if x.k = 3 then x.n = 0 ∧ x.s = ⟨#[]⟩
  else if x.k = 4 then x.n = 0 ∧ x.f = 0 ∧ x.s.size ≤ 4096 ∧ Lib.validD x.s.data.toList = true
  else false
end Val
end Go.Proofs.YtmgipnckojopcaaGreat
