/- The reference's Same of two operations. -/
import Derived.Test.YtmgipnckojopcaaGreatPbMkJ
namespace Go.Proofs.YtmgipnckojopcaaGreat
set_option maxRecDepth 100000
namespace Mk
open Go Go.RowKit Sx Tl Sq Val
def sameO (a b : Mo) : Bool := decide (a.id = b.id) && (decide (a.k = b.k) && (decide (a.st = b.st) && (decide (a.l = b.l) && (decide (a.r = b.r) && (decide (a.tx = b.tx) && (decide (cmpV a.v b.v = 0) && (decide (a.key = b.key) && (decide (a.par = b.par) && (decide (a.fr = b.fr) && decide (a.to = b.to))))))))))
section
attribute [local irreducible] RnS
attribute [local irreducible] W Lst Qst Pu seqQ blkQ rndQ cutQ retQ Does Enters IntKind.wrap bits sb World.alloc World.putObj Blk
set_option maxHeartbeats 4000000 in
theorem o_Same (a b : Mo) (ha : a.v.Fit) (hb : b.v.Fit) (w : World) : Does Tryz.prog 15 #[.agg (ocs a).toArray, .agg (ocs b).toArray] w fun v w' => v = .bool (sameO a b) ∧ Below w.heap.size w w' := by
  refine Does_of (args := [.agg (ocs a).toArray, .agg (ocs b).toArray]) Tryz.func15 (by kernel_rfl) rfl rfl rfl rfl rfl ?_
  (refine Ga ?_)
  refine Lst_abs (fun A => Below w.heap.size w A ∧ Blk A w.heap.size (ocs a) 47 ∧ Blk A (w.heap.size + 1) (ocs b) 47) ⟨Bel, (by (repeat (first | assumption | (apply Blk.below (hb := hb1); rotate_left; (focus ((try simp only [Sx.sizes]); omega)); rotate_right) | (apply Blk.below (hb := hb2); rotate_left; (focus ((try simp only [Sx.sizes]); omega)); rotate_right) | (apply Blk.below (hb := hb3); rotate_left; (focus ((try simp only [Sx.sizes]); omega)); rotate_right) | (apply Blk.below (hb := hb4); rotate_left; (focus ((try simp only [Sx.sizes]); omega)); rotate_right) | (apply Blk.below (hb := hb5); rotate_left; (focus ((try simp only [Sx.sizes]); omega)); rotate_right) | (apply Blk.below (hb := hb6); rotate_left; (focus ((try simp only [Sx.sizes]); omega)); rotate_right) | (apply Blk.below (hb := hb7); rotate_left; (focus ((try simp only [Sx.sizes]); omega)); rotate_right) | (apply Blk.below (hb := hb8); rotate_left; (focus ((try simp only [Sx.sizes]); omega)); rotate_right) | (apply Blk.below (hb := hb9); rotate_left; (focus ((try simp only [Sx.sizes]); omega)); rotate_right) | exact Blk.newE (by first | rfl | ((try simp only [Sx.sizes]); first | done | omega)) _ _ | exact Blk.put_same (by (try simp only [Sx.sizes]); first | done | omega) _ _ | (apply Blk.put_ne; (focus omega)) | apply Blk.alloc | apply Blk.drew)); done), (by (repeat (first | assumption | (apply Blk.below (hb := hb1); rotate_left; (focus ((try simp only [Sx.sizes]); omega)); rotate_right) | (apply Blk.below (hb := hb2); rotate_left; (focus ((try simp only [Sx.sizes]); omega)); rotate_right) | (apply Blk.below (hb := hb3); rotate_left; (focus ((try simp only [Sx.sizes]); omega)); rotate_right) | (apply Blk.below (hb := hb4); rotate_left; (focus ((try simp only [Sx.sizes]); omega)); rotate_right) | (apply Blk.below (hb := hb5); rotate_left; (focus ((try simp only [Sx.sizes]); omega)); rotate_right) | (apply Blk.below (hb := hb6); rotate_left; (focus ((try simp only [Sx.sizes]); omega)); rotate_right) | (apply Blk.below (hb := hb7); rotate_left; (focus ((try simp only [Sx.sizes]); omega)); rotate_right) | (apply Blk.below (hb := hb8); rotate_left; (focus ((try simp only [Sx.sizes]); omega)); rotate_right) | (apply Blk.below (hb := hb9); rotate_left; (focus ((try simp only [Sx.sizes]); omega)); rotate_right) | exact Blk.newE (by first | rfl | ((try simp only [Sx.sizes]); first | done | omega)) _ _ | exact Blk.put_same (by (try simp only [Sx.sizes]); first | done | omega) _ _ | (apply Blk.put_ne; (focus omega)) | apply Blk.alloc | apply Blk.drew)); done)⟩ ?_
  rintro A ⟨bA, k0, k1⟩
  unfold ocs at k0 k1
  have sA := bA.size
  generalize w.heap.size = bo at *
  by_cases h1 : a.id = b.id
  · skip
    (refine Ga ?_)
    apply Lst_pu
    · apply P_eqA
      focus rfl
      focus rfl
      focus kernel_rfl
      focus exact (by have := id_eq a.id b.id; rw [decide_eq_true h1] at this; exact this)
      focus rfl
    focus rfl
    by_cases h2 : a.k = b.k
    · skip
      by_cases h3 : a.st = b.st
      · skip
        by_cases h4 : a.l = b.l
        · skip
          (refine Ga ?_)
          apply Lst_pu
          · apply P_eqA
            focus rfl
            focus rfl
            focus kernel_rfl
            focus exact (by have := id_eq a.l b.l; rw [decide_eq_true h4] at this; exact this)
            focus rfl
          focus rfl
          by_cases h5 : a.r = b.r
          · skip
            (refine Ga ?_)
            apply Lst_pu
            · apply P_eqA
              focus rfl
              focus rfl
              focus kernel_rfl
              focus exact (by have := id_eq a.r b.r; rw [decide_eq_true h5] at this; exact this)
              focus rfl
            focus rfl
            by_cases h6 : a.tx = b.tx
            · skip
              (refine Ga ?_)
              (apply Lst_call; (focus rfl); (focus rfl))
              refine (Val.r_Cmp a.v b.v ha hb _).mono ?_
              rintro v w2 ⟨rfl, hb2⟩
              have k02 := k0.below hb2 k0.lt
              have k12 := k1.below hb2 k1.lt
              have b2 := bA.trans (hb2.mono sA)
              by_cases h7 : cmpV a.v b.v = 0
              · skip
                by_cases h8 : a.key = b.key
                · skip
                  by_cases h9 : a.par = b.par
                  · skip
                    (refine Ga ?_)
                    apply Lst_pu
                    · apply P_eqA
                      focus rfl
                      focus rfl
                      focus kernel_rfl
                      focus exact (by have := id_eq a.par b.par; rw [decide_eq_true h9] at this; exact this)
                      focus rfl
                    focus rfl
                    by_cases h10 : a.fr = b.fr
                    · skip
                      (refine Ga ?_)
                      apply Lst_pu
                      · apply P_eqA
                        focus rfl
                        focus rfl
                        focus kernel_rfl
                        focus exact (by have := anc_eq a.fr b.fr; rw [decide_eq_true h10] at this; exact this)
                        focus rfl
                      focus rfl
                      by_cases h11 : a.to = b.to
                      · skip
                        (refine Ga ?_)
                        apply Lst_pu
                        · apply P_eqA
                          focus rfl
                          focus rfl
                          focus kernel_rfl
                          focus exact (by have := anc_eq a.to b.to; rw [decide_eq_true h11] at this; exact this)
                          focus rfl
                        focus rfl
                        (refine Ga ?_)
                        (apply retQ1; (focus rfl))
                        exact ⟨by show Value.bool true = _; simp [sameO, h1, h2, h3, h4, h5, h6, h7, h8, h9, h10, h11], b2⟩
                      · skip
                        (refine Ga ?_)
                        apply Lst_pu
                        · apply P_eqA
                          focus rfl
                          focus rfl
                          focus kernel_rfl
                          focus exact (by have := anc_eq a.to b.to; rw [decide_eq_false h11] at this; exact this)
                          focus rfl
                        focus rfl
                        (refine Ga ?_)
                        (apply retQ1; (focus rfl))
                        exact ⟨by show Value.bool false = _; simp [sameO, h1, h2, h3, h4, h5, h6, h7, h8, h9, h10, h11], b2⟩
                    · skip
                      (refine Ga ?_)
                      apply Lst_pu
                      · apply P_eqA
                        focus rfl
                        focus rfl
                        focus kernel_rfl
                        focus exact (by have := anc_eq a.fr b.fr; rw [decide_eq_false h10] at this; exact this)
                        focus rfl
                      focus rfl
                      (refine Ga ?_)
                      (apply retQ1; (focus rfl))
                      exact ⟨by show Value.bool false = _; simp [sameO, h1, h2, h3, h4, h5, h6, h7, h8, h9, h10], b2⟩
                  · skip
                    (refine Ga ?_)
                    apply Lst_pu
                    · apply P_eqA
                      focus rfl
                      focus rfl
                      focus kernel_rfl
                      focus exact (by have := id_eq a.par b.par; rw [decide_eq_false h9] at this; exact this)
                      focus rfl
                    focus rfl
                    (refine Ga ?_)
                    (apply retQ1; (focus rfl))
                    exact ⟨by show Value.bool false = _; simp [sameO, h1, h2, h3, h4, h5, h6, h7, h8, h9], b2⟩
                · skip
                  (refine Ga ?_)
                  (apply retQ1; (focus rfl))
                  exact ⟨by show Value.bool false = _; simp [sameO, h1, h2, h3, h4, h5, h6, h7, h8], b2⟩
              · skip
                (refine Ga ?_)
                (apply retQ1; (focus rfl))
                exact ⟨by show Value.bool false = _; simp [sameO, h1, h2, h3, h4, h5, h6, h7], b2⟩
            · skip
              (refine Ga ?_)
              (apply retQ1; (focus rfl))
              exact ⟨by show Value.bool false = _; simp [sameO, h1, h2, h3, h4, h5, h6], bA⟩
          · skip
            (refine Ga ?_)
            apply Lst_pu
            · apply P_eqA
              focus rfl
              focus rfl
              focus kernel_rfl
              focus exact (by have := id_eq a.r b.r; rw [decide_eq_false h5] at this; exact this)
              focus rfl
            focus rfl
            (refine Ga ?_)
            (apply retQ1; (focus rfl))
            exact ⟨by show Value.bool false = _; simp [sameO, h1, h2, h3, h4, h5], bA⟩
        · skip
          (refine Ga ?_)
          apply Lst_pu
          · apply P_eqA
            focus rfl
            focus rfl
            focus kernel_rfl
            focus exact (by have := id_eq a.l b.l; rw [decide_eq_false h4] at this; exact this)
            focus rfl
          focus rfl
          (refine Ga ?_)
          (apply retQ1; (focus rfl))
          exact ⟨by show Value.bool false = _; simp [sameO, h1, h2, h3, h4], bA⟩
      · skip
        (refine Ga ?_)
        (apply retQ1; (focus rfl))
        exact ⟨by show Value.bool false = _; simp [sameO, h1, h2, h3], bA⟩
    · skip
      (refine Ga ?_)
      (apply retQ1; (focus rfl))
      exact ⟨by show Value.bool false = _; simp [sameO, h1, h2], bA⟩
  · skip
    (refine Ga ?_)
    apply Lst_pu
    · apply P_eqA
      focus rfl
      focus rfl
      focus kernel_rfl
      focus exact (by have := id_eq a.id b.id; rw [decide_eq_false h1] at this; exact this)
      focus rfl
    focus rfl
    (refine Ga ?_)
    (apply retQ1; (focus rfl))
    exact ⟨by show Value.bool false = _; simp [sameO, h1], bA⟩
end
end Mk
end Go.Proofs.YtmgipnckojopcaaGreat
