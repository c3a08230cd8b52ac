/- Package ops and the reference: Fits and Cut. -/
import Derived.Test.YtifkedhbelflkaaDoorOqOpE
namespace Go.Proofs.YtifkedhbelflkaaDoor
set_option maxRecDepth 100000
namespace Op
open Go Go.RowKit Sx Tl Val
open Utf (rs tl Tabs cutS)
def cutO (o : Mo) (f t : Nat) : Mo := { o with id := (o.id.1, o.id.2 + f), l := if f = 0 then o.l else (o.id.1, o.id.2 + f - 1), tx := cutS o.tx f t }
def cutR (o : Mo) (f t : Int) (v : Vl) : Value :=
  if 0 ≤ f ∧ f < t ∧ t ≤ (len o : Int) then .tuple #[.agg (ocs (if o.k = 1 then cutO o f.toNat t.toNat else { o with v := v })).toArray, .bool true] else .tuple #[.agg (ocs oz).toArray, .bool false]
section
attribute [local irreducible] RnS
attribute [local irreducible] W Lst Qst Pu seqQ blkQ rndQ cutQ retQ Does Enters IntKind.wrap bits sb World.alloc World.putObj Blk
set_option maxHeartbeats 4000000 in
theorem c_follows (a b : Mo) (hs : a.tx.size ≤ 1000000) (h0 : 1 ≤ a.id.2) (hi : a.id.2 + len a ≤ 9007199254740992) (w : World) (hT : Tabs w) : Does Tryd.prog 36 #[.agg (ocs a).toArray, .agg (ocs b).toArray] w fun v w' => v = .bool (folO a b) ∧ Below w.heap.size w w' := by
  refine Does_of (args := [.agg (ocs a).toArray, .agg (ocs b).toArray]) Tryd.func36 (by kernel_rfl) rfl rfl rfl rfl rfl ?_
  have hcast : ((a.id.2 + len a - 1 : Nat) : Int) = ((a.id.2 + len a : Nat) : Int) - 1 := by omega
  unfold ocs
  (refine Ga ?_)
  refine Lst_abs (fun A => Below w.heap.size w A ∧ Blk A w.heap.size (ocs a) 31 ∧ Blk A (w.heap.size + 1) (ocs b) 31) ⟨Bel, by unfold ocs; exact (by (repeat (first | assumption | (apply Blk.below (hb := hb1); rotate_left; (focus ((try simp only [Sx.sizes]); omega)); rotate_right) | (apply Blk.below (hb := hb2); rotate_left; (focus ((try simp only [Sx.sizes]); omega)); rotate_right) | (apply Blk.below (hb := hb3); rotate_left; (focus ((try simp only [Sx.sizes]); omega)); rotate_right) | (apply Blk.below (hb := hb4); rotate_left; (focus ((try simp only [Sx.sizes]); omega)); rotate_right) | (apply Blk.below (hb := hb5); rotate_left; (focus ((try simp only [Sx.sizes]); omega)); rotate_right) | (apply Blk.below (hb := hb6); rotate_left; (focus ((try simp only [Sx.sizes]); omega)); rotate_right) | (apply Blk.below (hb := hb7); rotate_left; (focus ((try simp only [Sx.sizes]); omega)); rotate_right) | (apply Blk.below (hb := hb8); rotate_left; (focus ((try simp only [Sx.sizes]); omega)); rotate_right) | (apply Blk.below (hb := hb9); rotate_left; (focus ((try simp only [Sx.sizes]); omega)); rotate_right) | exact Blk.newE (by first | rfl | ((try simp only [Sx.sizes]); first | done | omega)) _ _ | exact Blk.put_same (by (try simp only [Sx.sizes]); first | done | omega) _ _ | (apply Blk.put_ne; (focus omega)) | apply Blk.alloc | apply Blk.drew)); done), by unfold ocs; exact (by (repeat (first | assumption | (apply Blk.below (hb := hb1); rotate_left; (focus ((try simp only [Sx.sizes]); omega)); rotate_right) | (apply Blk.below (hb := hb2); rotate_left; (focus ((try simp only [Sx.sizes]); omega)); rotate_right) | (apply Blk.below (hb := hb3); rotate_left; (focus ((try simp only [Sx.sizes]); omega)); rotate_right) | (apply Blk.below (hb := hb4); rotate_left; (focus ((try simp only [Sx.sizes]); omega)); rotate_right) | (apply Blk.below (hb := hb5); rotate_left; (focus ((try simp only [Sx.sizes]); omega)); rotate_right) | (apply Blk.below (hb := hb6); rotate_left; (focus ((try simp only [Sx.sizes]); omega)); rotate_right) | (apply Blk.below (hb := hb7); rotate_left; (focus ((try simp only [Sx.sizes]); omega)); rotate_right) | (apply Blk.below (hb := hb8); rotate_left; (focus ((try simp only [Sx.sizes]); omega)); rotate_right) | (apply Blk.below (hb := hb9); rotate_left; (focus ((try simp only [Sx.sizes]); omega)); rotate_right) | exact Blk.newE (by first | rfl | ((try simp only [Sx.sizes]); first | done | omega)) _ _ | exact Blk.put_same (by (try simp only [Sx.sizes]); first | done | omega) _ _ | (apply Blk.put_ne; (focus omega)) | apply Blk.alloc | apply Blk.drew)); done)⟩ ?_
  rintro A ⟨bA, k0, k1⟩
  have sA := bA.size
  (apply Lst_call; (focus rfl); (focus rfl))
  refine (c_Range a hs (by omega) A (hT.below bA)).mono ?_
  rintro v B ⟨rfl, hB⟩
  have bB := bA.trans (hB.mono sA)
  have k0 := k0.below hB k0.lt
  have k1 := k1.below hB k1.lt
  have l0 := k0.lt
  have l1 := k1.lt
  have sB := Nat.le_trans sA hB.size
  unfold ocs at k0 k1
  unfold rcs rngO
  dsimp only
  clear hB bA sA
  (refine Ga ?_)
  refine Lst_abs (fun C => Below B.heap.size B C ∧ Blk C B.heap.size (rcs (rngO a)) 47) ⟨Bel, by unfold rcs rngO; exact (by (repeat (first | assumption | (apply Blk.below (hb := hb1); rotate_left; (focus ((try simp only [Sx.sizes]); omega)); rotate_right) | (apply Blk.below (hb := hb2); rotate_left; (focus ((try simp only [Sx.sizes]); omega)); rotate_right) | (apply Blk.below (hb := hb3); rotate_left; (focus ((try simp only [Sx.sizes]); omega)); rotate_right) | (apply Blk.below (hb := hb4); rotate_left; (focus ((try simp only [Sx.sizes]); omega)); rotate_right) | (apply Blk.below (hb := hb5); rotate_left; (focus ((try simp only [Sx.sizes]); omega)); rotate_right) | (apply Blk.below (hb := hb6); rotate_left; (focus ((try simp only [Sx.sizes]); omega)); rotate_right) | (apply Blk.below (hb := hb7); rotate_left; (focus ((try simp only [Sx.sizes]); omega)); rotate_right) | (apply Blk.below (hb := hb8); rotate_left; (focus ((try simp only [Sx.sizes]); omega)); rotate_right) | (apply Blk.below (hb := hb9); rotate_left; (focus ((try simp only [Sx.sizes]); omega)); rotate_right) | exact Blk.newE (by first | rfl | ((try simp only [Sx.sizes]); first | done | omega)) _ _ | exact Blk.put_same (by (try simp only [Sx.sizes]); first | done | omega) _ _ | (apply Blk.put_ne; (focus omega)) | apply Blk.alloc | apply Blk.drew)); done)⟩ ?_
  rintro C ⟨hC, k5⟩
  have bC := bB.trans (hC.mono sB)
  have k0 := k0.below hC l0
  have k1 := k1.below hC l1
  have l0 := k0.lt
  have l1 := k1.lt
  have l5 := k5.lt
  unfold rcs rngO at k5
  dsimp only at k5
  generalize B.heap.size = b5 at *
  unfold folO
  by_cases h1 : a.k = 1
  · skip
    by_cases h2 : b.k = 1
    · skip
      by_cases h3 : a.id.1 = b.id.1
      · skip
        by_cases h4 : b.id.2 = a.id.2 + len a
        · skip
          by_cases h5 : b.l = (a.id.1, a.id.2 + len a - 1)
          · skip
            (refine Ga ?_)
            apply Lst_pu
            · apply P_eqA
              focus rfl
              focus rfl
              focus kernel_rfl
              focus exact (by have := id_eq b.l (a.id.1, a.id.2 + len a - 1); rw [decide_eq_true h5] at this; unfold idv idcs at this; dsimp only at this; rw [hcast] at this; exact this)
              focus rfl
            focus rfl
            by_cases h6 : a.r = b.r
            · skip
              (refine Ga ?_)
              apply Lst_pu
              · apply P_eqA
                focus rfl
                focus rfl
                focus kernel_rfl
                focus exact (by have := id_eq a.r b.r; rw [decide_eq_true h6] at this; exact this)
                focus rfl
              focus rfl
              (refine Ga ?_)
              (apply retQ1; (focus rfl))
              exact ⟨show Value.bool true = _ by rw [decide_eq_true h1, decide_eq_true h2, decide_eq_true h3, decide_eq_true h4, decide_eq_true h5, decide_eq_true h6]; rfl, bC⟩
            · skip
              (refine Ga ?_)
              apply Lst_pu
              · apply P_eqA
                focus rfl
                focus rfl
                focus kernel_rfl
                focus exact (by have := id_eq a.r b.r; rw [decide_eq_false h6] at this; exact this)
                focus rfl
              focus rfl
              (refine Ga ?_)
              (apply retQ1; (focus rfl))
              exact ⟨show Value.bool false = _ by rw [decide_eq_true h1, decide_eq_true h2, decide_eq_true h3, decide_eq_true h4, decide_eq_true h5, decide_eq_false h6]; rfl, bC⟩
          · skip
            (refine Ga ?_)
            apply Lst_pu
            · apply P_eqA
              focus rfl
              focus rfl
              focus kernel_rfl
              focus exact (by have := id_eq b.l (a.id.1, a.id.2 + len a - 1); rw [decide_eq_false h5] at this; unfold idv idcs at this; dsimp only at this; rw [hcast] at this; exact this)
              focus rfl
            focus rfl
            (refine Ga ?_)
            (apply retQ1; (focus rfl))
            exact ⟨show Value.bool false = _ by rw [decide_eq_true h1, decide_eq_true h2, decide_eq_true h3, decide_eq_true h4, decide_eq_false h5]; rfl, bC⟩
        · skip
          (refine Ga ?_)
          (apply retQ1; (focus rfl))
          exact ⟨show Value.bool false = _ by rw [decide_eq_true h1, decide_eq_true h2, decide_eq_true h3, decide_eq_false h4]; rfl, bC⟩
      · skip
        (refine Ga ?_)
        (apply retQ1; (focus rfl))
        exact ⟨show Value.bool false = _ by rw [decide_eq_true h1, decide_eq_true h2, decide_eq_false h3]; rfl, bC⟩
    · skip
      (refine Ga ?_)
      (apply retQ1; (focus rfl))
      exact ⟨show Value.bool false = _ by rw [decide_eq_true h1, decide_eq_false h2]; rfl, bC⟩
  · skip
    (refine Ga ?_)
    (apply retQ1; (focus rfl))
    exact ⟨show Value.bool false = _ by rw [decide_eq_false h1]; rfl, bC⟩
set_option maxHeartbeats 4000000 in
theorem c_Fits (a b : Mo) (ha : a.tx.size ≤ 1000000) (hb : b.tx.size ≤ 1000000) (h0 : 1 ≤ a.id.2) (hi : a.id.2 + len a ≤ 9007199254740992) (w : World) (hT : Tabs w) : Does Tryd.prog 14 #[.agg (ocs a).toArray, .agg (ocs b).toArray] w fun v w' => v = .bool (folO a b && decide (len a + len b ≤ 4096)) ∧ Below w.heap.size w w' := by
  refine Does_of (args := [.agg (ocs a).toArray, .agg (ocs b).toArray]) Tryd.func14 (by kernel_rfl) rfl rfl rfl rfl rfl ?_
  have hla := len_le a ha
  have hlb := len_le b hb
  unfold ocs
  (refine Ga ?_)
  refine W_abs (fun A => Below w.heap.size w A ∧ Blk A w.heap.size (ocs a) 31 ∧ Blk A (w.heap.size + 1) (ocs b) 31) ⟨Bel, by unfold ocs; exact (by (repeat (first | assumption | (apply Blk.below (hb := hb1); rotate_left; (focus ((try simp only [Sx.sizes]); omega)); rotate_right) | (apply Blk.below (hb := hb2); rotate_left; (focus ((try simp only [Sx.sizes]); omega)); rotate_right) | (apply Blk.below (hb := hb3); rotate_left; (focus ((try simp only [Sx.sizes]); omega)); rotate_right) | (apply Blk.below (hb := hb4); rotate_left; (focus ((try simp only [Sx.sizes]); omega)); rotate_right) | (apply Blk.below (hb := hb5); rotate_left; (focus ((try simp only [Sx.sizes]); omega)); rotate_right) | (apply Blk.below (hb := hb6); rotate_left; (focus ((try simp only [Sx.sizes]); omega)); rotate_right) | (apply Blk.below (hb := hb7); rotate_left; (focus ((try simp only [Sx.sizes]); omega)); rotate_right) | (apply Blk.below (hb := hb8); rotate_left; (focus ((try simp only [Sx.sizes]); omega)); rotate_right) | (apply Blk.below (hb := hb9); rotate_left; (focus ((try simp only [Sx.sizes]); omega)); rotate_right) | exact Blk.newE (by first | rfl | ((try simp only [Sx.sizes]); first | done | omega)) _ _ | exact Blk.put_same (by (try simp only [Sx.sizes]); first | done | omega) _ _ | (apply Blk.put_ne; (focus omega)) | apply Blk.alloc | apply Blk.drew)); done), by unfold ocs; exact (by (repeat (first | assumption | (apply Blk.below (hb := hb1); rotate_left; (focus ((try simp only [Sx.sizes]); omega)); rotate_right) | (apply Blk.below (hb := hb2); rotate_left; (focus ((try simp only [Sx.sizes]); omega)); rotate_right) | (apply Blk.below (hb := hb3); rotate_left; (focus ((try simp only [Sx.sizes]); omega)); rotate_right) | (apply Blk.below (hb := hb4); rotate_left; (focus ((try simp only [Sx.sizes]); omega)); rotate_right) | (apply Blk.below (hb := hb5); rotate_left; (focus ((try simp only [Sx.sizes]); omega)); rotate_right) | (apply Blk.below (hb := hb6); rotate_left; (focus ((try simp only [Sx.sizes]); omega)); rotate_right) | (apply Blk.below (hb := hb7); rotate_left; (focus ((try simp only [Sx.sizes]); omega)); rotate_right) | (apply Blk.below (hb := hb8); rotate_left; (focus ((try simp only [Sx.sizes]); omega)); rotate_right) | (apply Blk.below (hb := hb9); rotate_left; (focus ((try simp only [Sx.sizes]); omega)); rotate_right) | exact Blk.newE (by first | rfl | ((try simp only [Sx.sizes]); first | done | omega)) _ _ | exact Blk.put_same (by (try simp only [Sx.sizes]); first | done | omega) _ _ | (apply Blk.put_ne; (focus omega)) | apply Blk.alloc | apply Blk.drew)); done)⟩ ?_
  rintro A ⟨bA, k0, k1⟩
  have l1 := k1.lt
  unfold ocs at k0 k1
  have hgr : ∀ Z, Below A.heap.size A Z → Below w.heap.size w Z := fun Z h => bA.trans (h.mono bA.size)
  have hg0 : ∀ Z, Below A.heap.size A Z → Blk Z w.heap.size _ _ := fun Z h => k0.below h (by omega)
  have hg1 : ∀ Z, Below A.heap.size A Z → Blk Z (w.heap.size + 1) _ _ := fun Z h => k1.below h l1
  generalize w.heap.size + 1 = b1 at *
  refine W_drawS 12 (fun Z => Below A.heap.size A Z) rfl rfl ?_
  have hS := Below.drew (Below.refl A.heap.size A)
  generalize A.drew = Z at *
  refine S_takeV 0 11 rfl (by kernel_rfl) (by repeat (first | exact retQ_p | apply seqQ_p | apply blkQ_p | apply rndQ_p | apply cutQ_p)) hS ?_
  apply Qst_loadA
  focus rfl
  focus rfl
  focus rfl
  focus rfl
  focus rfl
  focus exact fun A9 hA9 => hg0 A9 hA9
  focus (repeat constructor)
  focus rfl
  (refine Qb ?_)
  refine S_takeV 1 10 rfl (by kernel_rfl) (by repeat (first | exact retQ_p | apply seqQ_p | apply blkQ_p | apply rndQ_p | apply cutQ_p)) hS ?_
  apply Qst_loadA
  focus rfl
  focus rfl
  focus rfl
  focus rfl
  focus rfl
  focus exact fun A9 hA9 => hg1 A9 hA9
  focus (repeat constructor)
  focus rfl
  (refine Qb ?_)
  refine S_any [2] 9 rfl (by kernel_rfl) (all1 ?_)
  (apply Lst_call; (focus rfl); (focus rfl))
  refine (c_follows a b ha h0 hi Z (hT.below (hgr Z hS))).mono ?_
  rintro v V ⟨rfl, hV⟩
  apply Lst_nil
  apply rnQ_n
  have hS2 := hS.trans (hV.mono hS.size)
  refine ⟨hS2, ?_⟩
  clear hS hV
  have hS := hS2
  cases folO a b with
  | false =>
    refine S_takeV 3 8 rfl (by kernel_rfl) (by repeat (first | exact retQ_p | apply seqQ_p | apply blkQ_p | apply rndQ_p | apply cutQ_p)) hS ?_
    (refine Qb ?_)
    refine S_takeV 4 7 rfl (by kernel_rfl) (by repeat (first | exact retQ_p | apply seqQ_p | apply blkQ_p | apply rndQ_p | apply cutQ_p)) hS ?_
    (refine Qb ?_)
    refine S_takeV 6 6 rfl (by kernel_rfl) (by repeat (first | exact retQ_p | apply seqQ_p | apply blkQ_p | apply rndQ_p | apply cutQ_p)) hS ?_
    (refine Qb ?_)
    refine S_any [5] 5 rfl (by kernel_rfl) (all1 ?_)
    (refine Gf ?_)
    apply rnQ_n
    refine ⟨hS, ?_⟩
    refine S_any [7] 4 rfl (by kernel_rfl) (all1 ?_)
    (refine Gf ?_)
    apply rnQ_n
    refine ⟨hS, ?_⟩
    refine S_takeV 8 3 rfl (by kernel_rfl) (by repeat (first | exact retQ_p | apply seqQ_p | apply blkQ_p | apply rndQ_p | apply cutQ_p)) hS ?_
    (refine Qb ?_)
    refine S_takeV 9 2 rfl (by kernel_rfl) (by repeat (first | exact retQ_p | apply seqQ_p | apply blkQ_p | apply rndQ_p | apply cutQ_p)) hS ?_
    (refine Qb ?_)
    refine S_takeV 10 1 rfl (by kernel_rfl) (by repeat (first | exact retQ_p | apply seqQ_p | apply blkQ_p | apply rndQ_p | apply cutQ_p)) hS ?_
    (refine Qb ?_)
    refine S_takeV 11 0 rfl (by kernel_rfl) (by repeat (first | exact retQ_p | apply seqQ_p | apply blkQ_p | apply rndQ_p | apply cutQ_p)) hS ?_
    (refine Qb ?_)
    refine S_done (by kernel_rfl) ?_
    (refine Ga ?_)
    (apply retQ1; (focus rfl))
    exact ⟨rfl, hgr _ hS⟩
  | true =>
    refine S_takeV 3 8 rfl (by kernel_rfl) (by repeat (first | exact retQ_p | apply seqQ_p | apply blkQ_p | apply rndQ_p | apply cutQ_p)) hS ?_
    (refine Qb ?_)
    refine S_takeV 4 7 rfl (by kernel_rfl) (by repeat (first | exact retQ_p | apply seqQ_p | apply blkQ_p | apply rndQ_p | apply cutQ_p)) hS ?_
    apply Qst_guard_t
    focus rfl
    focus rfl
    apply Qst_loadA
    focus rfl
    focus rfl
    focus rfl
    focus rfl
    focus rfl
    focus exact fun A9 hA9 => hg0 A9 hA9
    focus (repeat constructor)
    focus rfl
    (refine Qb ?_)
    refine S_takeV 6 6 rfl (by kernel_rfl) (by repeat (first | exact retQ_p | apply seqQ_p | apply blkQ_p | apply rndQ_p | apply cutQ_p)) hS ?_
    apply Qst_guard_t
    focus rfl
    focus rfl
    apply Qst_loadA
    focus rfl
    focus rfl
    focus rfl
    focus rfl
    focus rfl
    focus exact fun A9 hA9 => hg1 A9 hA9
    focus (repeat constructor)
    focus rfl
    (refine Qb ?_)
    refine S_any [5] 5 rfl (by kernel_rfl) (all1 ?_)
    apply Lst_guard_t
    focus rfl
    focus rfl
    (apply Lst_call; (focus rfl); (focus rfl))
    refine (c_Len a ha _ (hT.below (hgr _ hS))).mono ?_
    rintro v V ⟨rfl, hV⟩
    apply Lst_nil
    apply rnQ_n
    have hS2 := hS.trans (hV.mono hS.size)
    refine ⟨hS2, ?_⟩
    clear hS hV
    have hS := hS2
    refine S_any [7] 4 rfl (by kernel_rfl) (all1 ?_)
    apply Lst_guard_t
    focus rfl
    focus rfl
    (apply Lst_call; (focus rfl); (focus rfl))
    refine (c_Len b hb _ (hT.below (hgr _ hS))).mono ?_
    rintro v V ⟨rfl, hV⟩
    apply Lst_nil
    apply rnQ_n
    have hS2 := hS.trans (hV.mono hS.size)
    refine ⟨hS2, ?_⟩
    clear hS hV
    have hS := hS2
    by_cases hle : len a + len b ≤ 4096
    · rw [decide_eq_true hle]
      refine S_takeV 8 3 rfl (by kernel_rfl) (by repeat (first | exact retQ_p | apply seqQ_p | apply blkQ_p | apply rndQ_p | apply cutQ_p)) hS ?_
      (refine Qb ?_)
      refine S_takeV 9 2 rfl (by kernel_rfl) (by repeat (first | exact retQ_p | apply seqQ_p | apply blkQ_p | apply rndQ_p | apply cutQ_p)) hS ?_
      (refine Qb ?_)
      refine S_takeV 10 1 rfl (by kernel_rfl) (by repeat (first | exact retQ_p | apply seqQ_p | apply blkQ_p | apply rndQ_p | apply cutQ_p)) hS ?_
      (refine Qb ?_)
      refine S_takeV 11 0 rfl (by kernel_rfl) (by repeat (first | exact retQ_p | apply seqQ_p | apply blkQ_p | apply rndQ_p | apply cutQ_p)) hS ?_
      (refine Qb ?_)
      refine S_done (by kernel_rfl) ?_
      (refine Ga ?_)
      (apply retQ1; (focus rfl))
      exact ⟨rfl, hgr _ hS⟩
    · rw [decide_eq_false hle]
      refine S_takeV 8 3 rfl (by kernel_rfl) (by repeat (first | exact retQ_p | apply seqQ_p | apply blkQ_p | apply rndQ_p | apply cutQ_p)) hS ?_
      (refine Qb ?_)
      refine S_takeV 9 2 rfl (by kernel_rfl) (by repeat (first | exact retQ_p | apply seqQ_p | apply blkQ_p | apply rndQ_p | apply cutQ_p)) hS ?_
      (refine Qb ?_)
      refine S_takeV 10 1 rfl (by kernel_rfl) (by repeat (first | exact retQ_p | apply seqQ_p | apply blkQ_p | apply rndQ_p | apply cutQ_p)) hS ?_
      (refine Qb ?_)
      refine S_takeV 11 0 rfl (by kernel_rfl) (by repeat (first | exact retQ_p | apply seqQ_p | apply blkQ_p | apply rndQ_p | apply cutQ_p)) hS ?_
      (refine Qb ?_)
      refine S_done (by kernel_rfl) ?_
      (refine Ga ?_)
      (apply retQ1; (focus rfl))
      exact ⟨rfl, hgr _ hS⟩
set_option maxHeartbeats 4000000 in
theorem c_OCut (o : Mo) (ht : o.k = 1 → OkT o) (hs : o.tx.size ≤ 1000000) (f t : Int) (hf : -9223372036854775808 ≤ f ∧ f < 9223372036854775808) (w : World) (hT : Tabs w) : Does Tryd.prog 8 #[.agg (ocs o).toArray, .int .i64 f, .int .i64 t] w fun v w' => v = cutR o f t (cleanV o.v) ∧ Below w.heap.size w w' := by
  refine Does_of (args := [.agg (ocs o).toArray, .int .i64 f, .int .i64 t]) Tryd.func8 (by kernel_rfl) rfl rfl rfl rfl rfl ?_
  have hl := len_le o hs
  unfold ocs
  (refine Ga ?_)
  refine Lst_abs (fun A => Below w.heap.size w A ∧ Blk A w.heap.size (ocs o) 31 ∧ Blk A (w.heap.size + 1) (ocs oz) 31) ⟨Bel, by unfold ocs; exact (by (repeat (first | assumption | (apply Blk.below (hb := hb1); rotate_left; (focus ((try simp only [Sx.sizes]); omega)); rotate_right) | (apply Blk.below (hb := hb2); rotate_left; (focus ((try simp only [Sx.sizes]); omega)); rotate_right) | (apply Blk.below (hb := hb3); rotate_left; (focus ((try simp only [Sx.sizes]); omega)); rotate_right) | (apply Blk.below (hb := hb4); rotate_left; (focus ((try simp only [Sx.sizes]); omega)); rotate_right) | (apply Blk.below (hb := hb5); rotate_left; (focus ((try simp only [Sx.sizes]); omega)); rotate_right) | (apply Blk.below (hb := hb6); rotate_left; (focus ((try simp only [Sx.sizes]); omega)); rotate_right) | (apply Blk.below (hb := hb7); rotate_left; (focus ((try simp only [Sx.sizes]); omega)); rotate_right) | (apply Blk.below (hb := hb8); rotate_left; (focus ((try simp only [Sx.sizes]); omega)); rotate_right) | (apply Blk.below (hb := hb9); rotate_left; (focus ((try simp only [Sx.sizes]); omega)); rotate_right) | exact Blk.newE (by first | rfl | ((try simp only [Sx.sizes]); first | done | omega)) _ _ | exact Blk.put_same (by (try simp only [Sx.sizes]); first | done | omega) _ _ | (apply Blk.put_ne; (focus omega)) | apply Blk.alloc | apply Blk.drew)); done), by unfold ocs oz; exact (by (repeat (first | assumption | (apply Blk.below (hb := hb1); rotate_left; (focus ((try simp only [Sx.sizes]); omega)); rotate_right) | (apply Blk.below (hb := hb2); rotate_left; (focus ((try simp only [Sx.sizes]); omega)); rotate_right) | (apply Blk.below (hb := hb3); rotate_left; (focus ((try simp only [Sx.sizes]); omega)); rotate_right) | (apply Blk.below (hb := hb4); rotate_left; (focus ((try simp only [Sx.sizes]); omega)); rotate_right) | (apply Blk.below (hb := hb5); rotate_left; (focus ((try simp only [Sx.sizes]); omega)); rotate_right) | (apply Blk.below (hb := hb6); rotate_left; (focus ((try simp only [Sx.sizes]); omega)); rotate_right) | (apply Blk.below (hb := hb7); rotate_left; (focus ((try simp only [Sx.sizes]); omega)); rotate_right) | (apply Blk.below (hb := hb8); rotate_left; (focus ((try simp only [Sx.sizes]); omega)); rotate_right) | (apply Blk.below (hb := hb9); rotate_left; (focus ((try simp only [Sx.sizes]); omega)); rotate_right) | exact Blk.newE (by first | rfl | ((try simp only [Sx.sizes]); first | done | omega)) _ _ | exact Blk.put_same (by (try simp only [Sx.sizes]); first | done | omega) _ _ | (apply Blk.put_ne; (focus omega)) | apply Blk.alloc | apply Blk.drew)); done)⟩ ?_
  rintro A ⟨bA, k0, k6⟩
  have sA := bA.size
  have l6 := k6.lt
  have hne : w.heap.size ≠ w.heap.size + 1 := by omega
  obtain ⟨b6, hb6⟩ : ∃ b, w.heap.size + 1 = b := ⟨_, rfl⟩
  rw [hb6] at k6 l6 hne ⊢
  by_cases h1 : f < 0
  · unfold ocs oz at k6
    (refine Ga ?_)
    (refine Retat ?_)
    exact ⟨by unfold cutR; rw [if_neg (by omega)]; rfl, Bel⟩
  by_cases h2 : f < t
  · (refine Ga ?_)
    have k0u := k0
    unfold ocs at k0u
    (refine Ga ?_)
    (apply Lst_call; (focus rfl); (focus rfl))
    refine (c_Len o hs A (hT.below bA)).mono ?_
    rintro v B ⟨rfl, hB⟩
    have bB := bA.trans (hB.mono sA)
    have k0B := k0.below hB k0.lt
    have k6B := k6.below hB l6
    have sB := Nat.le_trans sA hB.size
    have l0B := k0B.lt
    have l6B := k6B.lt
    clear k0u k0 k6 hB
    unfold ocs oz at k6B
    unfold ocs at k0B
    by_cases h3 : t ≤ (len o : Int)
    · (refine Ga ?_)
      (apply Lst_call; (focus rfl); (focus rfl))
      refine (c_Clean o.v B).mono ?_
      rintro v C ⟨rfl, hC⟩
      have bC := bB.trans (hC.mono sB)
      have k0C := k0B.below hC l0B
      have k6C := k6B.below hC l6B
      have sC := Nat.le_trans sB hC.size
      have l0C := k0C.lt
      have l6C := k6C.lt
      by_cases hk : o.k = 1
      · have hok := ht hk
        have hclk := right_hi hok.id
        obtain ⟨fn, rfl⟩ : ∃ n : Nat, f = (n : Int) := ⟨f.toNat, by omega⟩
        obtain ⟨tn, rfl⟩ : ∃ n : Nat, t = (n : Int) := ⟨t.toNat, by omega⟩
        have hv0 : cleanV o.v = o.v := by rw [hok.v]; rfl
        rw [hv0]
        unfold Vl.v
        (refine Ga ?_)
        refine Lst_abs (fun D => Below w.heap.size w D ∧ Blk D w.heap.size (ocs o) 31 ∧ Blk D b6 (ocs oz) 31) ⟨Bel, by unfold ocs; exact (by (repeat (first | assumption | (apply Blk.below (hb := hb1); rotate_left; (focus ((try simp only [Sx.sizes]); omega)); rotate_right) | (apply Blk.below (hb := hb2); rotate_left; (focus ((try simp only [Sx.sizes]); omega)); rotate_right) | (apply Blk.below (hb := hb3); rotate_left; (focus ((try simp only [Sx.sizes]); omega)); rotate_right) | (apply Blk.below (hb := hb4); rotate_left; (focus ((try simp only [Sx.sizes]); omega)); rotate_right) | (apply Blk.below (hb := hb5); rotate_left; (focus ((try simp only [Sx.sizes]); omega)); rotate_right) | (apply Blk.below (hb := hb6); rotate_left; (focus ((try simp only [Sx.sizes]); omega)); rotate_right) | (apply Blk.below (hb := hb7); rotate_left; (focus ((try simp only [Sx.sizes]); omega)); rotate_right) | (apply Blk.below (hb := hb8); rotate_left; (focus ((try simp only [Sx.sizes]); omega)); rotate_right) | (apply Blk.below (hb := hb9); rotate_left; (focus ((try simp only [Sx.sizes]); omega)); rotate_right) | exact Blk.newE (by first | rfl | ((try simp only [Sx.sizes]); first | done | omega)) _ _ | exact Blk.put_same (by (try simp only [Sx.sizes]); first | done | omega) _ _ | (apply Blk.put_ne; (focus omega)) | apply Blk.alloc | apply Blk.drew)); done), by unfold ocs oz; exact (by (repeat (first | assumption | (apply Blk.below (hb := hb1); rotate_left; (focus ((try simp only [Sx.sizes]); omega)); rotate_right) | (apply Blk.below (hb := hb2); rotate_left; (focus ((try simp only [Sx.sizes]); omega)); rotate_right) | (apply Blk.below (hb := hb3); rotate_left; (focus ((try simp only [Sx.sizes]); omega)); rotate_right) | (apply Blk.below (hb := hb4); rotate_left; (focus ((try simp only [Sx.sizes]); omega)); rotate_right) | (apply Blk.below (hb := hb5); rotate_left; (focus ((try simp only [Sx.sizes]); omega)); rotate_right) | (apply Blk.below (hb := hb6); rotate_left; (focus ((try simp only [Sx.sizes]); omega)); rotate_right) | (apply Blk.below (hb := hb7); rotate_left; (focus ((try simp only [Sx.sizes]); omega)); rotate_right) | (apply Blk.below (hb := hb8); rotate_left; (focus ((try simp only [Sx.sizes]); omega)); rotate_right) | (apply Blk.below (hb := hb9); rotate_left; (focus ((try simp only [Sx.sizes]); omega)); rotate_right) | exact Blk.newE (by first | rfl | ((try simp only [Sx.sizes]); first | done | omega)) _ _ | exact Blk.put_same (by (try simp only [Sx.sizes]); first | done | omega) _ _ | (apply Blk.put_ne; (focus omega)) | apply Blk.alloc | apply Blk.drew)); done)⟩ ?_
        rintro D ⟨bD, k0D, k6D⟩
        have sD := bD.size
        (apply Lst_call; (focus rfl); (focus rfl))
        refine (Utf.c_Cut o.tx fn tn D (hT.below bD) hs).mono ?_
        rintro v E ⟨rfl, hE⟩
        have bE := bD.trans (hE.mono sD)
        have k0E := k0D.below hE k0D.lt
        have k6E := k6D.below hE k6D.lt
        have l0E := k0E.lt
        have l6E := k6E.lt
        clear k0B k6B k0C k6C l0C l6C l0B l6B hC hE bC bB k0D k6D bD
        unfold ocs at k0E
        unfold ocs oz at k6E
        by_cases h0 : fn = 0
        · (refine Ga ?_)
          (refine Retat ?_)
          exact ⟨by unfold cutR; rw [if_pos ⟨by omega, h2, h3⟩, if_pos hk]; unfold cutO ocs; dsimp only [Int.toNat_natCast]; rw [if_pos h0]; rfl, Bel⟩
        · have hpos : (fn : Int) > 0 := by omega
          have hcast : ((o.id.2 + fn - 1 : Nat) : Int) = (o.id.2 : Int) + (fn : Int) - 1 := by omega
          (refine Ga ?_)
          (refine Retat ?_)
          exact ⟨by unfold cutR; rw [if_pos ⟨by omega, h2, h3⟩, if_pos hk]; unfold cutO ocs; dsimp only [Int.toNat_natCast]; rw [if_neg h0]; dsimp only; rw [hcast]; rfl, Bel⟩
      · unfold Vl.v cleanV
        (refine Ga ?_)
        (refine Retat ?_)
        exact ⟨by unfold cutR; rw [if_pos ⟨by omega, h2, h3⟩, if_neg hk]; rfl, Bel⟩
    · (refine Ga ?_)
      (refine Retat ?_)
      exact ⟨by unfold cutR; rw [if_neg (by omega)]; rfl, Bel⟩
  · unfold ocs oz at k6
    (refine Ga ?_)
    (refine Retat ?_)
    exact ⟨by unfold cutR; rw [if_neg (by omega)]; rfl, Bel⟩
end
end Op
end Go.Proofs.YtifkedhbelflkaaDoor
