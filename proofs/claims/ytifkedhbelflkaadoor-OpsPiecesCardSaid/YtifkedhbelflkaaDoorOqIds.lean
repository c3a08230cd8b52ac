/- The walks of package ids that a sequence needs. -/
import Derived.Test.YtifkedhbelflkaaDoorProg
import Derived.Test.YtifkedhbelflkaaDoorOqSxGo
namespace Go.Proofs.YtifkedhbelflkaaDoor
set_option maxRecDepth 100000
namespace Ids
open Go Go.RowKit Sx
attribute [local irreducible] W Lst Qst Pu seqQ blkQ rndQ cutQ retQ Does Enters IntKind.wrap bits sb World.alloc World.putObj Blk
def idv (c k : Int) : Value := .agg #[.int .u64 c, .int .u64 k]
theorem c_number (n : Int) (w : World) : Does Tryd.prog 61 #[.int .u64 n] w fun v w' => v = .bool (decide (1 ≤ n ∧ n ≤ 9007199254740991)) ∧ w = w' := by
  refine Does_of (args := [.int .u64 n]) Tryd.func61 (by kernel_rfl) rfl rfl rfl rfl rfl ?_
  by_cases h1 : 1 ≤ n
  · by_cases h2 : n ≤ 9007199254740991
    · (refine Ga ?_)
      (apply retQ1; (focus rfl))
      exact ⟨congrArg Value.bool (by simp; omega), rfl⟩
    · (refine Ga ?_)
      (apply retQ1; (focus rfl))
      exact ⟨congrArg Value.bool (by simp; omega), rfl⟩
  · (refine Ga ?_)
    (apply retQ1; (focus rfl))
    exact ⟨congrArg Value.bool (by simp; omega), rfl⟩
theorem c_Right (c k : Int) (w : World) : Does Tryd.prog 40 #[idv c k] w fun v w' => v = .bool (decide ((1 ≤ c ∧ c ≤ 9007199254740991) ∧ (1 ≤ k ∧ k ≤ 9007199254740991))) ∧ Below w.heap.size w w' := by
  refine Does_of (args := [idv c k]) Tryd.func40 (by kernel_rfl) rfl rfl rfl rfl rfl ?_
  (refine Ga ?_)
  (apply Lst_call; (focus rfl); (focus rfl))
  refine (c_number c _).mono ?_
  rintro v w' ⟨rfl, rfl⟩
  by_cases h1 : 1 ≤ c ∧ c ≤ 9007199254740991
  · rw [decide_eq_true h1]
    (refine Ga ?_)
    (apply Lst_call; (focus rfl); (focus rfl))
    refine (c_number k _).mono ?_
    rintro v w' ⟨rfl, rfl⟩
    (refine Ga ?_)
    (apply retQ1; (focus rfl))
    exact ⟨congrArg Value.bool (by simp [h1]), Bel⟩
  · rw [decide_eq_false h1]
    (refine Ga ?_)
    (apply retQ1; (focus rfl))
    exact ⟨congrArg Value.bool (by simp [h1]), Bel⟩
theorem c_Less (a b c d : Int) (w : World) : Does Tryd.prog 33 #[idv a b, idv c d] w fun v w' => v = .bool (decide (a < c ∨ a = c ∧ b < d)) ∧ Below w.heap.size w w' := by
  refine Does_of (args := [idv a b, idv c d]) Tryd.func33 (by kernel_rfl) rfl rfl rfl rfl rfl ?_
  by_cases h1 : a < c
  · (refine Ga ?_)
    (apply retQ1; (focus rfl))
    exact ⟨congrArg Value.bool (by simp; omega), Bel⟩
  · by_cases h2 : a = c
    · by_cases h3 : b < d
      · (refine Ga ?_)
        (apply retQ1; (focus rfl))
        exact ⟨congrArg Value.bool (by simp; omega), Bel⟩
      · (refine Ga ?_)
        (apply retQ1; (focus rfl))
        exact ⟨congrArg Value.bool (by simp; omega), Bel⟩
    · (refine Ga ?_)
      (apply retQ1; (focus rfl))
      exact ⟨congrArg Value.bool (by simp; omega), Bel⟩
theorem c_RRight (c k : Int) (w : World) : Does Tryd.prog 16 #[idv c k] w fun v w' => v = .bool (decide ((1 ≤ c ∧ c ≤ 9007199254740991) ∧ (1 ≤ k ∧ k ≤ 9007199254740991))) ∧ Below w.heap.size w w' := by
  refine Does_of (args := [idv c k]) Tryd.func16 (by kernel_rfl) rfl rfl rfl rfl rfl ?_
  by_cases h1 : 1 ≤ c
  · by_cases h2 : c ≤ 9007199254740991
    · by_cases h3 : 1 ≤ k
      · by_cases h4 : k ≤ 9007199254740991
        · (refine Ga ?_)
          (apply retQ1; (focus rfl))
          exact ⟨congrArg Value.bool (by simp; omega), Bel⟩
        · (refine Ga ?_)
          (apply retQ1; (focus rfl))
          exact ⟨congrArg Value.bool (by simp; omega), Bel⟩
      · (refine Ga ?_)
        (apply retQ1; (focus rfl))
        exact ⟨congrArg Value.bool (by simp; omega), Bel⟩
    · (refine Ga ?_)
      (apply retQ1; (focus rfl))
      exact ⟨congrArg Value.bool (by simp; omega), Bel⟩
  · (refine Ga ?_)
    (apply retQ1; (focus rfl))
    exact ⟨congrArg Value.bool (by simp; omega), Bel⟩
end Ids
end Go.Proofs.YtifkedhbelflkaaDoor
