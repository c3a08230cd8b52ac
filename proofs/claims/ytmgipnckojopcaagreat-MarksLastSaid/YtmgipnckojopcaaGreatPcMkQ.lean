/- The reference's Same of two operations. -/
import Derived.Test.YtmgipnckojopcaaGreatPcMkJ
namespace Go.Proofs.YtmgipnckojopcaaGreat
set_option maxRecDepth 100000
namespace Mk
open Go Go.RowKit Sx Tl Sq Val
section
attribute [local irreducible] RnS
attribute [local irreducible] W Lst Qst Pu seqQ blkQ rndQ cutQ retQ Does Enters IntKind.wrap bits sb World.alloc World.putObj Blk
end
end Mk
end Go.Proofs.YtmgipnckojopcaaGreat
