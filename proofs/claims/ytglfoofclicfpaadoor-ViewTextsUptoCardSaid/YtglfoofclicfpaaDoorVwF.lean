/- Both Patches. -/
import Derived.Test.YtglfoofclicfpaaDoorVwE
namespace Go.Proofs.YtglfoofclicfpaaDoor
set_option maxRecDepth 100000
namespace Vw
open Go Go.RowKit Sx Tl Fl Val Mk
open Utf (rs tl Tabs cutS)
/-- What a patch gives. -/
def patU (U : List Un) (at0 n : Int) (V : List Un) : List Un := U.take (min at0.toNat U.length) ++ V ++ U.drop (min at0.toNat U.length + min n.toNat (U.length - min at0.toNat U.length))
theorem patU_eq {U V : List Un} {at0 n : Int} {p q : Nat} (hp : min (max at0 0) (U.length : Int) = p) (hq : min (max n 0) ((U.length : Int) - p) = q) : patU U at0 n V = U.take p ++ V ++ U.drop (p + q) := by
  unfold patU
  have h1 : min at0.toNat U.length = p := by omega
  have h2 : min n.toNat (U.length - p) = q := by omega
  rw [h1, h2]
theorem us_app {K L : List Rv} : us ((K ++ L).map Prod.fst) = us (K.map Prod.fst) ++ us (L.map Prod.fst) := by rw [List.map_append, us_append]
theorem app_all {K L : List Rv} {p : Rv → Prop} (h : ∀ k ∈ K, p k) (g : ∀ k ∈ L, p k) : ∀ k ∈ K ++ L, p k := fun k hk => by
  rcases List.mem_append.1 hk with hk | hk
  · exact h k hk
  · exact g k hk
section
attribute [local irreducible] RnS RnT
attribute [local irreducible] W Lst Qst Pu seqQ blkQ rndQ cutQ retQ Does Enters IntKind.wrap bits sb World.alloc World.putObj Blk
end
end Vw
end Go.Proofs.YtglfoofclicfpaaDoor
