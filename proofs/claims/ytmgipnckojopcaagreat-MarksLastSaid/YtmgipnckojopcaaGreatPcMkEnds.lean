/- MarksEnds' walk. -/
import Derived.Test.YtmgipnckojopcaaGreatPcMkF
import Derived.Test.YtmgipnckojopcaaGreatPcMkU
namespace Go.Proofs.YtmgipnckojopcaaGreat
set_option maxRecDepth 100000
namespace Mk
open Go Go.RowKit Sx Tl Sq Val
theorem own_cell {w : World} {B e n : Nat} {v : Value} {xs : List Value} (h : w.ownsRow B e 1 v n xs) {k : Nat} (hk : k < xs.length) : ∃ g c, v = .slice (some ⟨g, 0, none⟩) n c ∧ w.cell? ⟨g, 0 + k, none⟩ = some xs[k] := by
  obtain ⟨hl, h⟩ := h
  rcases h with ⟨rfl, rfl⟩ | ⟨g, cap, cur, rfl, _, hg, _, _, hs, ht⟩
  · omega
  · refine ⟨g, cap, rfl, ?_⟩
    have hg' : w.heap[g]? = some (.cells cur e) := hg
    have h1 : (cur.toList.take (n * 1))[k]? = some xs[k] := by rw [ht, List.getElem?_eq_getElem hk]
    rw [List.getElem?_take] at h1
    have h2 : cur.toList[k]? = some xs[k] := by
      split at h1
      · exact h1
      · cases h1
    simp only [World.cell?, hg']
    rw [← h2]
    simp
theorem mark_row {w : World} {b : Nat} {q : Mk} (h : Blk w b (mcs q) 57) : SRows w 5 (.slice (some ⟨b, 0, none⟩) 1 1) ([q].map mcs) := by
  refine SRows.of_own (base := 0) (e := 57) (nn := 1) ⟨rfl, .inr ⟨b, 1, (mcs q).toArray, rfl, Nat.zero_le _, h, Nat.le_refl _, by decide, rfl, rfl⟩⟩ (mcs_len [q]) (by decide)
theorem one_row {w : World} {b : Nat} {o : Mo} (h : Blk w b (ocs o) 47) : SRows w 22 (.slice (some ⟨b, 0, none⟩) 1 1) ([o].map ocs) := by
  refine SRows.of_own (base := 0) (e := 47) (nn := 1) ⟨rfl, .inr ⟨b, 1, (ocs o).toArray, rfl, Nat.zero_le _, h, Nat.le_refl _, by decide, rfl, rfl⟩⟩ (ocs_len [o]) (by decide)
section
attribute [local irreducible] RnS
attribute [local irreducible] W Lst Qst Pu seqQ blkQ rndQ cutQ retQ Does Enters IntKind.wrap bits sb World.alloc World.putObj Blk
end
end Mk
end Go.Proofs.YtmgipnckojopcaaGreat
