/- Package ops: Len, Range, Fits, Same, Check at a text. -/
import Derived.Test.YtifkedhbelflkaaDoorOqOpC
namespace Go.Proofs.YtifkedhbelflkaaDoor
set_option maxRecDepth 100000
namespace Op
open Go Go.RowKit Sx Tl Val
open Utf (rs tl Tabs)
def rngO (o : Mo) : Rg := (o.id.1, o.id.2, o.id.2 + len o)
def folO (a b : Mo) : Bool := decide (a.k = 1) && (decide (b.k = 1) && (decide (a.id.1 = b.id.1) && (decide (b.id.2 = a.id.2 + len a) && (decide (b.l = (a.id.1, a.id.2 + len a - 1)) && decide (a.r = b.r)))))
/-- A text that is taken has no more than its kind's fields. -/
def tc (id l r : Id) (tx : ByteArray) : Mo := ⟨id, 1, 0, l, r, tx, ⟨0, 0, 0, ⟨#[]⟩⟩, ⟨#[]⟩, (0, 0), ⟨(0, 0), false⟩, ⟨(0, 0), false⟩⟩
theorem okT_form {o : Mo} (h : OkT o) : o = tc o.id o.l o.r o.tx := by
  obtain ⟨id, k, st, l, r, tx, v, key, par, fr, til⟩ := o
  have h1 := h.k; have h2 := h.st; have h3 := h.v; have h4 := h.key; have h5 := h.par; have h6 := h.fr; have h7 := h.til
  dsimp only at h1 h2 h3 h4 h5 h6 h7 ⊢
  rw [h1, h2, h3, h4, h5, h6, h7]
  rfl
section
attribute [local irreducible] RnS
attribute [local irreducible] W Lst Qst Pu seqQ blkQ rndQ cutQ retQ Does Enters IntKind.wrap bits sb World.alloc World.putObj Blk
set_option maxHeartbeats 2000000 in
theorem c_Len (o : Mo) (hs : o.tx.size ≤ 1000000) (w : World) (hT : Tabs w) : Does Tryd.prog 13 #[.agg (ocs o).toArray] w fun v w' => v = .int .i64 (len o : Int) ∧ Below w.heap.size w w' := by
  refine Does_of (args := [.agg (ocs o).toArray]) Tryd.func13 (by kernel_rfl) rfl rfl rfl rfl rfl ?_
  unfold ocs len
  by_cases h : o.k = 1
  · rw [if_pos h]
    (refine Ga ?_)
    (apply Lst_call; (focus rfl); (focus rfl))
    refine (Utf.c_Len o.tx _ (hT.below Bel) (by omega)).mono ?_
    rintro v w' ⟨rfl, hb⟩
    (refine Ga ?_)
    (apply retQ1; (focus rfl))
    exact ⟨rfl, Sx.Below.after (w := w) Bel hb⟩
  · rw [if_neg h]
    (refine Ga ?_)
    (apply retQ1; (focus rfl))
    exact ⟨rfl, Bel⟩
set_option maxHeartbeats 2000000 in
theorem c_Range (o : Mo) (hs : o.tx.size ≤ 1000000) (hi : o.id.2 + len o ≤ 18446744073709551615) (w : World) (hT : Tabs w) : Does Tryd.prog 15 #[.agg (ocs o).toArray] w fun v w' => v = .agg (rcs (rngO o)).toArray ∧ Below w.heap.size w w' := by
  refine Does_of (args := [.agg (ocs o).toArray]) Tryd.func15 (by kernel_rfl) rfl rfl rfl rfl rfl ?_
  unfold ocs
  have hl := len_le o hs
  (refine Ga ?_)
  refine W_abs (fun A => Below w.heap.size w A ∧ Blk A w.heap.size (ocs o) 31 ∧ Blk A (w.heap.size + 1) [.int .u64 0, .int .u64 0, .int .u64 0] 47) ⟨Bel, by unfold ocs; exact (by (repeat (first | assumption | (apply Blk.below (hb := hb1); rotate_left; (focus ((try simp only [Sx.sizes]); omega)); rotate_right) | (apply Blk.below (hb := hb2); rotate_left; (focus ((try simp only [Sx.sizes]); omega)); rotate_right) | (apply Blk.below (hb := hb3); rotate_left; (focus ((try simp only [Sx.sizes]); omega)); rotate_right) | (apply Blk.below (hb := hb4); rotate_left; (focus ((try simp only [Sx.sizes]); omega)); rotate_right) | (apply Blk.below (hb := hb5); rotate_left; (focus ((try simp only [Sx.sizes]); omega)); rotate_right) | (apply Blk.below (hb := hb6); rotate_left; (focus ((try simp only [Sx.sizes]); omega)); rotate_right) | (apply Blk.below (hb := hb7); rotate_left; (focus ((try simp only [Sx.sizes]); omega)); rotate_right) | (apply Blk.below (hb := hb8); rotate_left; (focus ((try simp only [Sx.sizes]); omega)); rotate_right) | (apply Blk.below (hb := hb9); rotate_left; (focus ((try simp only [Sx.sizes]); omega)); rotate_right) | exact Blk.newE (by first | rfl | ((try simp only [Sx.sizes]); first | done | omega)) _ _ | exact Blk.put_same (by (try simp only [Sx.sizes]); first | done | omega) _ _ | (apply Blk.put_ne; (focus omega)) | apply Blk.alloc | apply Blk.drew)); done), (by (repeat (first | assumption | (apply Blk.below (hb := hb1); rotate_left; (focus ((try simp only [Sx.sizes]); omega)); rotate_right) | (apply Blk.below (hb := hb2); rotate_left; (focus ((try simp only [Sx.sizes]); omega)); rotate_right) | (apply Blk.below (hb := hb3); rotate_left; (focus ((try simp only [Sx.sizes]); omega)); rotate_right) | (apply Blk.below (hb := hb4); rotate_left; (focus ((try simp only [Sx.sizes]); omega)); rotate_right) | (apply Blk.below (hb := hb5); rotate_left; (focus ((try simp only [Sx.sizes]); omega)); rotate_right) | (apply Blk.below (hb := hb6); rotate_left; (focus ((try simp only [Sx.sizes]); omega)); rotate_right) | (apply Blk.below (hb := hb7); rotate_left; (focus ((try simp only [Sx.sizes]); omega)); rotate_right) | (apply Blk.below (hb := hb8); rotate_left; (focus ((try simp only [Sx.sizes]); omega)); rotate_right) | (apply Blk.below (hb := hb9); rotate_left; (focus ((try simp only [Sx.sizes]); omega)); rotate_right) | exact Blk.newE (by first | rfl | ((try simp only [Sx.sizes]); first | done | omega)) _ _ | exact Blk.put_same (by (try simp only [Sx.sizes]); first | done | omega) _ _ | (apply Blk.put_ne; (focus omega)) | apply Blk.alloc | apply Blk.drew)); done)⟩ ?_
  rintro A ⟨bA, kA, k2⟩
  unfold ocs at kA
  have lA := kA.lt
  have sA := bA.size
  have hno : w.heap.size ≠ w.heap.size + 1 := by omega
  obtain ⟨b2, hb2⟩ : ∃ b, w.heap.size + 1 = b := ⟨_, rfl⟩
  obtain ⟨bo, hbo⟩ : ∃ b, w.heap.size = b := ⟨_, rfl⟩
  rw [hb2] at k2 hno ⊢
  rw [hbo] at kA hno lA ⊢
  refine W_drawS 15 (fun Z => Blk Z bo (ocs o) 31) rfl rfl ?_
  unfold ocs
  have hS := Blk.drew kA
  have bZ := Below.drew (Below.refl A.heap.size A)
  have k2Z := Blk.drew k2
  generalize A.drew = Z at *
  refine S_takeV 0 14 rfl (by kernel_rfl) (by repeat (first | exact retQ_p | apply seqQ_p | apply blkQ_p | apply rndQ_p | apply cutQ_p)) hS ?_
  (refine Qb ?_)
  refine S_takeV 1 13 rfl (by kernel_rfl) (by repeat (first | exact retQ_p | apply seqQ_p | apply blkQ_p | apply rndQ_p | apply cutQ_p)) hS ?_
  (refine Qb ?_)
  refine S_takeV 2 12 rfl (by kernel_rfl) (by repeat (first | exact retQ_p | apply seqQ_p | apply blkQ_p | apply rndQ_p | apply cutQ_p)) hS ?_
  (refine Qb ?_)
  refine S_takeV 3 11 rfl (by kernel_rfl) (by repeat (first | exact retQ_p | apply seqQ_p | apply blkQ_p | apply rndQ_p | apply cutQ_p)) hS ?_
  (refine Qb ?_)
  refine S_takeV 4 10 rfl (by kernel_rfl) (by repeat (first | exact retQ_p | apply seqQ_p | apply blkQ_p | apply rndQ_p | apply cutQ_p)) hS ?_
  (refine Qb ?_)
  refine S_takeV 5 9 rfl (by kernel_rfl) (by repeat (first | exact retQ_p | apply seqQ_p | apply blkQ_p | apply rndQ_p | apply cutQ_p)) hS ?_
  (refine Qb ?_)
  refine S_takeV 6 8 rfl (by kernel_rfl) (by repeat (first | exact retQ_p | apply seqQ_p | apply blkQ_p | apply rndQ_p | apply cutQ_p)) hS ?_
  (refine Qb ?_)
  refine S_takeV 7 7 rfl (by kernel_rfl) (by repeat (first | exact retQ_p | apply seqQ_p | apply blkQ_p | apply rndQ_p | apply cutQ_p)) hS ?_
  (refine Qb ?_)
  refine S_takeV 8 6 rfl (by kernel_rfl) (by repeat (first | exact retQ_p | apply seqQ_p | apply blkQ_p | apply rndQ_p | apply cutQ_p)) hS ?_
  (refine Qb ?_)
  refine S_takeV 9 5 rfl (by kernel_rfl) (by repeat (first | exact retQ_p | apply seqQ_p | apply blkQ_p | apply rndQ_p | apply cutQ_p)) hS ?_
  (refine Qb ?_)
  refine S_any [10] 4 rfl (by kernel_rfl) (all1 ?_)
  (apply Lst_call; (focus rfl); (focus rfl))
  refine (c_Len o hs Z (hT.below (bA.trans (bZ.mono bA.size)))).mono ?_
  rintro v V ⟨rfl, hV⟩
  apply Lst_nil
  apply rnQ_n
  have bV := (bA.trans (bZ.mono bA.size)).trans (hV.mono (bA.trans (bZ.mono bA.size)).size)
  have hS2 := hS.below hV hS.lt
  have k2V := k2Z.below hV k2Z.lt
  have l2V := k2V.lt
  refine ⟨hS2, ?_⟩
  clear hS
  have hS := hS2
  refine S_takeV 11 3 rfl (by kernel_rfl) (by repeat (first | exact retQ_p | apply seqQ_p | apply blkQ_p | apply rndQ_p | apply cutQ_p)) hS ?_
  (refine Qb ?_)
  refine S_takeV 12 2 rfl (by kernel_rfl) (by repeat (first | exact retQ_p | apply seqQ_p | apply blkQ_p | apply rndQ_p | apply cutQ_p)) hS ?_
  (refine Qb ?_)
  refine S_takeV 13 1 rfl (by kernel_rfl) (by repeat (first | exact retQ_p | apply seqQ_p | apply blkQ_p | apply rndQ_p | apply cutQ_p)) hS ?_
  (refine Qb ?_)
  refine S_any [14] 0 rfl (by kernel_rfl) (all1 ?_)
  (refine Ga ?_)
  apply rnQ_n
  refine ⟨(by (repeat (first | assumption | (apply Blk.below (hb := hb1); rotate_left; (focus ((try simp only [Sx.sizes]); omega)); rotate_right) | (apply Blk.below (hb := hb2); rotate_left; (focus ((try simp only [Sx.sizes]); omega)); rotate_right) | (apply Blk.below (hb := hb3); rotate_left; (focus ((try simp only [Sx.sizes]); omega)); rotate_right) | (apply Blk.below (hb := hb4); rotate_left; (focus ((try simp only [Sx.sizes]); omega)); rotate_right) | (apply Blk.below (hb := hb5); rotate_left; (focus ((try simp only [Sx.sizes]); omega)); rotate_right) | (apply Blk.below (hb := hb6); rotate_left; (focus ((try simp only [Sx.sizes]); omega)); rotate_right) | (apply Blk.below (hb := hb7); rotate_left; (focus ((try simp only [Sx.sizes]); omega)); rotate_right) | (apply Blk.below (hb := hb8); rotate_left; (focus ((try simp only [Sx.sizes]); omega)); rotate_right) | (apply Blk.below (hb := hb9); rotate_left; (focus ((try simp only [Sx.sizes]); omega)); rotate_right) | exact Blk.newE (by first | rfl | ((try simp only [Sx.sizes]); first | done | omega)) _ _ | exact Blk.put_same (by (try simp only [Sx.sizes]); first | done | omega) _ _ | (apply Blk.put_ne; (focus omega)) | apply Blk.alloc | apply Blk.drew)); done), ?_⟩
  refine S_done (by kernel_rfl) ?_
  (refine Ga ?_)
  (refine Reta ?_)
  refine ⟨rfl, ?_⟩
  rw [← hbo]
  exact Sx.Below.put (b := b2) bV (by omega) _
set_option maxHeartbeats 4000000 in
theorem c_Same8 (a b : Mo) (ha : a.v.Fit) (hb : b.v.Fit) (w : World) : Does Tryd.prog 39 #[.agg (ocs a).toArray, .agg (ocs b).toArray] w fun v w' => v = .bool (sameO a b) ∧ Below w.heap.size w w' := by
  refine Does_of (args := [.agg (ocs a).toArray, .agg (ocs b).toArray]) Tryd.func39 (by kernel_rfl) rfl rfl rfl rfl rfl ?_
  (refine Ga ?_)
  refine Lst_abs (fun A => Below w.heap.size w A ∧ Blk A w.heap.size (ocs a) 31 ∧ Blk A (w.heap.size + 1) (ocs b) 31) ⟨Bel, (by (repeat (first | assumption | (apply Blk.below (hb := hb1); rotate_left; (focus ((try simp only [Sx.sizes]); omega)); rotate_right) | (apply Blk.below (hb := hb2); rotate_left; (focus ((try simp only [Sx.sizes]); omega)); rotate_right) | (apply Blk.below (hb := hb3); rotate_left; (focus ((try simp only [Sx.sizes]); omega)); rotate_right) | (apply Blk.below (hb := hb4); rotate_left; (focus ((try simp only [Sx.sizes]); omega)); rotate_right) | (apply Blk.below (hb := hb5); rotate_left; (focus ((try simp only [Sx.sizes]); omega)); rotate_right) | (apply Blk.below (hb := hb6); rotate_left; (focus ((try simp only [Sx.sizes]); omega)); rotate_right) | (apply Blk.below (hb := hb7); rotate_left; (focus ((try simp only [Sx.sizes]); omega)); rotate_right) | (apply Blk.below (hb := hb8); rotate_left; (focus ((try simp only [Sx.sizes]); omega)); rotate_right) | (apply Blk.below (hb := hb9); rotate_left; (focus ((try simp only [Sx.sizes]); omega)); rotate_right) | exact Blk.newE (by first | rfl | ((try simp only [Sx.sizes]); first | done | omega)) _ _ | exact Blk.put_same (by (try simp only [Sx.sizes]); first | done | omega) _ _ | (apply Blk.put_ne; (focus omega)) | apply Blk.alloc | apply Blk.drew)); done), (by (repeat (first | assumption | (apply Blk.below (hb := hb1); rotate_left; (focus ((try simp only [Sx.sizes]); omega)); rotate_right) | (apply Blk.below (hb := hb2); rotate_left; (focus ((try simp only [Sx.sizes]); omega)); rotate_right) | (apply Blk.below (hb := hb3); rotate_left; (focus ((try simp only [Sx.sizes]); omega)); rotate_right) | (apply Blk.below (hb := hb4); rotate_left; (focus ((try simp only [Sx.sizes]); omega)); rotate_right) | (apply Blk.below (hb := hb5); rotate_left; (focus ((try simp only [Sx.sizes]); omega)); rotate_right) | (apply Blk.below (hb := hb6); rotate_left; (focus ((try simp only [Sx.sizes]); omega)); rotate_right) | (apply Blk.below (hb := hb7); rotate_left; (focus ((try simp only [Sx.sizes]); omega)); rotate_right) | (apply Blk.below (hb := hb8); rotate_left; (focus ((try simp only [Sx.sizes]); omega)); rotate_right) | (apply Blk.below (hb := hb9); rotate_left; (focus ((try simp only [Sx.sizes]); omega)); rotate_right) | exact Blk.newE (by first | rfl | ((try simp only [Sx.sizes]); first | done | omega)) _ _ | exact Blk.put_same (by (try simp only [Sx.sizes]); first | done | omega) _ _ | (apply Blk.put_ne; (focus omega)) | apply Blk.alloc | apply Blk.drew)); done)⟩ ?_
  rintro A ⟨bA, k0, k1⟩
  unfold ocs at k0 k1
  have sA := bA.size
  generalize w.heap.size = bo at *
  by_cases h1 : a.id = b.id
  · skip
    (refine Ga ?_)
    apply Lst_pu
    · apply P_eqA
      focus rfl
      focus rfl
      focus kernel_rfl
      focus exact (by have := id_eq a.id b.id; rw [decide_eq_true h1] at this; exact this)
      focus rfl
    focus rfl
    by_cases h2 : a.k = b.k
    · skip
      by_cases h3 : a.st = b.st
      · skip
        by_cases h4 : a.l = b.l
        · skip
          (refine Ga ?_)
          apply Lst_pu
          · apply P_eqA
            focus rfl
            focus rfl
            focus kernel_rfl
            focus exact (by have := id_eq a.l b.l; rw [decide_eq_true h4] at this; exact this)
            focus rfl
          focus rfl
          by_cases h5 : a.r = b.r
          · skip
            (refine Ga ?_)
            apply Lst_pu
            · apply P_eqA
              focus rfl
              focus rfl
              focus kernel_rfl
              focus exact (by have := id_eq a.r b.r; rw [decide_eq_true h5] at this; exact this)
              focus rfl
            focus rfl
            by_cases h6 : a.tx = b.tx
            · skip
              (refine Ga ?_)
              (apply Lst_call; (focus rfl); (focus rfl))
              refine (Val.c_Same a.v b.v ha hb _).mono ?_
              rintro v w2 ⟨rfl, hb2⟩
              have k02 := k0.below hb2 k0.lt
              have k12 := k1.below hb2 k1.lt
              have b2 := bA.trans (hb2.mono sA)
              cases h7 : decide (cmpV a.v b.v = 0)
              · skip
                (refine Ga ?_)
                (apply retQ1; (focus rfl))
                exact ⟨by show Value.bool false = _; simp [sameO, h1, h2, h3, h4, h5, h6, h7], b2⟩
              · skip
                by_cases h8 : a.key = b.key
                · skip
                  by_cases h9 : a.par = b.par
                  · skip
                    (refine Ga ?_)
                    apply Lst_pu
                    · apply P_eqA
                      focus rfl
                      focus rfl
                      focus kernel_rfl
                      focus exact (by have := id_eq a.par b.par; rw [decide_eq_true h9] at this; exact this)
                      focus rfl
                    focus rfl
                    by_cases h10 : a.fr = b.fr
                    · skip
                      (refine Ga ?_)
                      apply Lst_pu
                      · apply P_eqA
                        focus rfl
                        focus rfl
                        focus kernel_rfl
                        focus exact (by have := anc_eq a.fr b.fr; rw [decide_eq_true h10] at this; exact this)
                        focus rfl
                      focus rfl
                      by_cases h11 : a.til = b.til
                      · skip
                        (refine Ga ?_)
                        apply Lst_pu
                        · apply P_eqA
                          focus rfl
                          focus rfl
                          focus kernel_rfl
                          focus exact (by have := anc_eq a.til b.til; rw [decide_eq_true h11] at this; exact this)
                          focus rfl
                        focus rfl
                        (refine Ga ?_)
                        (apply retQ1; (focus rfl))
                        exact ⟨by show Value.bool true = _; simp [sameO, h1, h2, h3, h4, h5, h6, h7, h8, h9, h10, h11], b2⟩
                      · skip
                        (refine Ga ?_)
                        apply Lst_pu
                        · apply P_eqA
                          focus rfl
                          focus rfl
                          focus kernel_rfl
                          focus exact (by have := anc_eq a.til b.til; rw [decide_eq_false h11] at this; exact this)
                          focus rfl
                        focus rfl
                        (refine Ga ?_)
                        (apply retQ1; (focus rfl))
                        exact ⟨by show Value.bool false = _; simp [sameO, h1, h2, h3, h4, h5, h6, h7, h8, h9, h10, h11], b2⟩
                    · skip
                      (refine Ga ?_)
                      apply Lst_pu
                      · apply P_eqA
                        focus rfl
                        focus rfl
                        focus kernel_rfl
                        focus exact (by have := anc_eq a.fr b.fr; rw [decide_eq_false h10] at this; exact this)
                        focus rfl
                      focus rfl
                      (refine Ga ?_)
                      (apply retQ1; (focus rfl))
                      exact ⟨by show Value.bool false = _; simp [sameO, h1, h2, h3, h4, h5, h6, h7, h8, h9, h10], b2⟩
                  · skip
                    (refine Ga ?_)
                    apply Lst_pu
                    · apply P_eqA
                      focus rfl
                      focus rfl
                      focus kernel_rfl
                      focus exact (by have := id_eq a.par b.par; rw [decide_eq_false h9] at this; exact this)
                      focus rfl
                    focus rfl
                    (refine Ga ?_)
                    (apply retQ1; (focus rfl))
                    exact ⟨by show Value.bool false = _; simp [sameO, h1, h2, h3, h4, h5, h6, h7, h8, h9], b2⟩
                · skip
                  (refine Ga ?_)
                  (apply retQ1; (focus rfl))
                  exact ⟨by show Value.bool false = _; simp [sameO, h1, h2, h3, h4, h5, h6, h7, h8], b2⟩
            · skip
              (refine Ga ?_)
              (apply retQ1; (focus rfl))
              exact ⟨by show Value.bool false = _; simp [sameO, h1, h2, h3, h4, h5, h6], bA⟩
          · skip
            (refine Ga ?_)
            apply Lst_pu
            · apply P_eqA
              focus rfl
              focus rfl
              focus kernel_rfl
              focus exact (by have := id_eq a.r b.r; rw [decide_eq_false h5] at this; exact this)
              focus rfl
            focus rfl
            (refine Ga ?_)
            (apply retQ1; (focus rfl))
            exact ⟨by show Value.bool false = _; simp [sameO, h1, h2, h3, h4, h5], bA⟩
        · skip
          (refine Ga ?_)
          apply Lst_pu
          · apply P_eqA
            focus rfl
            focus rfl
            focus kernel_rfl
            focus exact (by have := id_eq a.l b.l; rw [decide_eq_false h4] at this; exact this)
            focus rfl
          focus rfl
          (refine Ga ?_)
          (apply retQ1; (focus rfl))
          exact ⟨by show Value.bool false = _; simp [sameO, h1, h2, h3, h4], bA⟩
      · skip
        (refine Ga ?_)
        (apply retQ1; (focus rfl))
        exact ⟨by show Value.bool false = _; simp [sameO, h1, h2, h3], bA⟩
    · skip
      (refine Ga ?_)
      (apply retQ1; (focus rfl))
      exact ⟨by show Value.bool false = _; simp [sameO, h1, h2], bA⟩
  · skip
    (refine Ga ?_)
    apply Lst_pu
    · apply P_eqA
      focus rfl
      focus rfl
      focus kernel_rfl
      focus exact (by have := id_eq a.id b.id; rw [decide_eq_false h1] at this; exact this)
      focus rfl
    focus rfl
    (refine Ga ?_)
    (apply retQ1; (focus rfl))
    exact ⟨by show Value.bool false = _; simp [sameO, h1], bA⟩
set_option maxHeartbeats 2000000 in
theorem c_bare (o : Mo) (h : OkT o) (hs : o.tx.size ≤ 1000000) (w : World) (hT : Tabs w) : Does Tryd.prog 38 #[.agg (ocs o).toArray] w fun v w' => v = .tuple #[.agg (ocs o).toArray, .bool true] ∧ Below w.heap.size w w' := by
  refine Does_of (args := [.agg (ocs o).toArray]) Tryd.func38 (by kernel_rfl) rfl rfl rfl rfl rfl ?_
  have hval := h.val
  have hn1 := h.n1
  have hn2 := h.n2
  have hne0 : o.tx ≠ ⟨#[]⟩ := fun e => by
    rw [e] at hn1
    exact absurd hn1 (by decide)
  rw [okT_form h]
  obtain ⟨id, k, st, l, r, tx, v, key, par, fr, til⟩ := o
  dsimp only at hval hn1 hn2 hne0 hs ⊢
  clear h
  unfold ocs tc
  dsimp only
  (refine Ga ?_)
  refine Lst_abs (fun A => Below w.heap.size w A ∧ Blk A w.heap.size [.int .u64 (id.1 : Int), .int .u64 (id.2 : Int), .int .i64 1, .int .u64 0, .int .u64 (l.1 : Int), .int .u64 (l.2 : Int), .int .u64 (r.1 : Int), .int .u64 (r.2 : Int), .string tx, .int .i64 0, .int .i64 0, .float .f64 0, .string ⟨#[]⟩, .string ⟨#[]⟩, .int .u64 0, .int .u64 0, .int .u64 0, .int .u64 0, .bool false, .int .u64 0, .int .u64 0, .bool false] 31 ∧ Blk A (w.heap.size + 1) [.int .u64 0, .int .u64 0, .int .i64 0, .int .u64 0, .int .u64 0, .int .u64 0, .int .u64 0, .int .u64 0, .string ⟨#[]⟩, .int .i64 0, .int .i64 0, .float .f64 0, .string ⟨#[]⟩, .string ⟨#[]⟩, .int .u64 0, .int .u64 0, .int .u64 0, .int .u64 0, .bool false, .int .u64 0, .int .u64 0, .bool false] 31 ∧ Blk A (w.heap.size + 2) [.int .u64 (id.1 : Int), .int .u64 (id.2 : Int), .int .i64 1, .int .u64 0, .int .u64 0, .int .u64 0, .int .u64 0, .int .u64 0, .string tx, .int .i64 0, .int .i64 0, .float .f64 0, .string ⟨#[]⟩, .string ⟨#[]⟩, .int .u64 0, .int .u64 0, .int .u64 0, .int .u64 0, .bool false, .int .u64 0, .int .u64 0, .bool false] 31) ⟨Bel, (by (repeat (first | assumption | (apply Blk.below (hb := hb1); rotate_left; (focus ((try simp only [Sx.sizes]); omega)); rotate_right) | (apply Blk.below (hb := hb2); rotate_left; (focus ((try simp only [Sx.sizes]); omega)); rotate_right) | (apply Blk.below (hb := hb3); rotate_left; (focus ((try simp only [Sx.sizes]); omega)); rotate_right) | (apply Blk.below (hb := hb4); rotate_left; (focus ((try simp only [Sx.sizes]); omega)); rotate_right) | (apply Blk.below (hb := hb5); rotate_left; (focus ((try simp only [Sx.sizes]); omega)); rotate_right) | (apply Blk.below (hb := hb6); rotate_left; (focus ((try simp only [Sx.sizes]); omega)); rotate_right) | (apply Blk.below (hb := hb7); rotate_left; (focus ((try simp only [Sx.sizes]); omega)); rotate_right) | (apply Blk.below (hb := hb8); rotate_left; (focus ((try simp only [Sx.sizes]); omega)); rotate_right) | (apply Blk.below (hb := hb9); rotate_left; (focus ((try simp only [Sx.sizes]); omega)); rotate_right) | exact Blk.newE (by first | rfl | ((try simp only [Sx.sizes]); first | done | omega)) _ _ | exact Blk.put_same (by (try simp only [Sx.sizes]); first | done | omega) _ _ | (apply Blk.put_ne; (focus omega)) | apply Blk.alloc | apply Blk.drew)); done), (by (repeat (first | assumption | (apply Blk.below (hb := hb1); rotate_left; (focus ((try simp only [Sx.sizes]); omega)); rotate_right) | (apply Blk.below (hb := hb2); rotate_left; (focus ((try simp only [Sx.sizes]); omega)); rotate_right) | (apply Blk.below (hb := hb3); rotate_left; (focus ((try simp only [Sx.sizes]); omega)); rotate_right) | (apply Blk.below (hb := hb4); rotate_left; (focus ((try simp only [Sx.sizes]); omega)); rotate_right) | (apply Blk.below (hb := hb5); rotate_left; (focus ((try simp only [Sx.sizes]); omega)); rotate_right) | (apply Blk.below (hb := hb6); rotate_left; (focus ((try simp only [Sx.sizes]); omega)); rotate_right) | (apply Blk.below (hb := hb7); rotate_left; (focus ((try simp only [Sx.sizes]); omega)); rotate_right) | (apply Blk.below (hb := hb8); rotate_left; (focus ((try simp only [Sx.sizes]); omega)); rotate_right) | (apply Blk.below (hb := hb9); rotate_left; (focus ((try simp only [Sx.sizes]); omega)); rotate_right) | exact Blk.newE (by first | rfl | ((try simp only [Sx.sizes]); first | done | omega)) _ _ | exact Blk.put_same (by (try simp only [Sx.sizes]); first | done | omega) _ _ | (apply Blk.put_ne; (focus omega)) | apply Blk.alloc | apply Blk.drew)); done), (by (repeat (first | assumption | (apply Blk.below (hb := hb1); rotate_left; (focus ((try simp only [Sx.sizes]); omega)); rotate_right) | (apply Blk.below (hb := hb2); rotate_left; (focus ((try simp only [Sx.sizes]); omega)); rotate_right) | (apply Blk.below (hb := hb3); rotate_left; (focus ((try simp only [Sx.sizes]); omega)); rotate_right) | (apply Blk.below (hb := hb4); rotate_left; (focus ((try simp only [Sx.sizes]); omega)); rotate_right) | (apply Blk.below (hb := hb5); rotate_left; (focus ((try simp only [Sx.sizes]); omega)); rotate_right) | (apply Blk.below (hb := hb6); rotate_left; (focus ((try simp only [Sx.sizes]); omega)); rotate_right) | (apply Blk.below (hb := hb7); rotate_left; (focus ((try simp only [Sx.sizes]); omega)); rotate_right) | (apply Blk.below (hb := hb8); rotate_left; (focus ((try simp only [Sx.sizes]); omega)); rotate_right) | (apply Blk.below (hb := hb9); rotate_left; (focus ((try simp only [Sx.sizes]); omega)); rotate_right) | exact Blk.newE (by first | rfl | ((try simp only [Sx.sizes]); first | done | omega)) _ _ | exact Blk.put_same (by (try simp only [Sx.sizes]); first | done | omega) _ _ | (apply Blk.put_ne; (focus omega)) | apply Blk.alloc | apply Blk.drew)); done)⟩ ?_
  rintro A ⟨bA, k0, k2, k4⟩
  have sA := bA.size
  (apply Lst_call; (focus rfl); (focus rfl))
  refine (Utf.c_Check tx A (hT.below bA) (by omega)).mono ?_
  rintro v B ⟨rfl, hB⟩
  rw [hval]
  have bB := bA.trans (hB.mono sA)
  have k0 := k0.below hB k0.lt
  have k2 := k2.below hB k2.lt
  have k4 := k4.below hB k4.lt
  have sB := Nat.le_trans sA hB.size
  have l0 := k0.lt
  clear hB bA sA
  (refine Ga ?_)
  (apply Lst_call; (focus rfl); (focus rfl))
  refine (Utf.c_Len tx B (hT.below bB) (by omega)).mono ?_
  rintro v C ⟨rfl, hC⟩
  have bC := bB.trans (hC.mono sB)
  have k0 := k0.below hC k0.lt
  have k2 := k2.below hC k2.lt
  have k4 := k4.below hC k4.lt
  have sC := Nat.le_trans sB hC.size
  have l4 := k4.lt
  have n1 : w.heap.size ≠ w.heap.size + 2 := by omega
  have n2 : w.heap.size + 1 ≠ w.heap.size + 2 := by omega
  clear hC bB sB l0
  (refine Ga ?_)
  refine W_drawS 8 (fun Z => Blk Z w.heap.size [.int .u64 (id.1 : Int), .int .u64 (id.2 : Int), .int .i64 1, .int .u64 0, .int .u64 (l.1 : Int), .int .u64 (l.2 : Int), .int .u64 (r.1 : Int), .int .u64 (r.2 : Int), .string tx, .int .i64 0, .int .i64 0, .float .f64 0, .string ⟨#[]⟩, .string ⟨#[]⟩, .int .u64 0, .int .u64 0, .int .u64 0, .int .u64 0, .bool false, .int .u64 0, .int .u64 0, .bool false] 31) rfl rfl ?_
  have hS := Blk.drew k0
  have k2Z := Blk.drew k2
  have k4Z := Blk.drew k4
  have bZ := Below.drew bC
  have l4Z := k4Z.lt
  generalize C.drew = Z at *
  obtain ⟨b4, hb4⟩ : ∃ b, w.heap.size + 2 = b := ⟨_, rfl⟩
  obtain ⟨b2, hb2⟩ : ∃ b, w.heap.size + 1 = b := ⟨_, rfl⟩
  obtain ⟨bo, hbo⟩ : ∃ b, w.heap.size = b := ⟨_, rfl⟩
  rw [show w.heap.size + 1 + 1 = w.heap.size + 2 from rfl, hb4, hb2, hbo]
  rw [hb4] at k4Z l4Z n1 n2
  rw [hb2] at k2Z n2
  rw [hbo] at hS n1
  refine S_takeV 0 7 rfl (by kernel_rfl) (by repeat (first | exact retQ_p | apply seqQ_p | apply blkQ_p | apply rndQ_p | apply cutQ_p)) hS ?_
  (refine Qb ?_)
  refine S_takeV 1 6 rfl (by kernel_rfl) (by repeat (first | exact retQ_p | apply seqQ_p | apply blkQ_p | apply rndQ_p | apply cutQ_p)) hS ?_
  (refine Qb ?_)
  refine S_takeV 2 5 rfl (by kernel_rfl) (by repeat (first | exact retQ_p | apply seqQ_p | apply blkQ_p | apply rndQ_p | apply cutQ_p)) hS ?_
  (refine Qb ?_)
  refine S_takeV 3 4 rfl (by kernel_rfl) (by repeat (first | exact retQ_p | apply seqQ_p | apply blkQ_p | apply rndQ_p | apply cutQ_p)) hS ?_
  (refine Qb ?_)
  refine S_takeV 4 3 rfl (by kernel_rfl) (by repeat (first | exact retQ_p | apply seqQ_p | apply blkQ_p | apply rndQ_p | apply cutQ_p)) hS ?_
  (refine Qb ?_)
  refine S_any [5] 2 rfl (by kernel_rfl) (all1 ?_)
  (refine Ga ?_)
  apply rnQ_n
  refine ⟨Blk.put_ne n1 hS, ?_⟩
  have hS1 := Blk.put_ne (o := .cells ([.int .u64 (id.1 : Int), .int .u64 (id.2 : Int), .int .i64 1, .int .u64 0, .int .u64 (l.1 : Int), .int .u64 (l.2 : Int), .int .u64 0, .int .u64 0, .string tx, .int .i64 0, .int .i64 0, .float .f64 0, .string ⟨#[]⟩, .string ⟨#[]⟩, .int .u64 0, .int .u64 0, .int .u64 0, .int .u64 0, .bool false, .int .u64 0, .int .u64 0, .bool false] : List Value).toArray 31) n1 hS
  have k21 := Blk.put_ne (o := .cells ([.int .u64 (id.1 : Int), .int .u64 (id.2 : Int), .int .i64 1, .int .u64 0, .int .u64 (l.1 : Int), .int .u64 (l.2 : Int), .int .u64 0, .int .u64 0, .string tx, .int .i64 0, .int .i64 0, .float .f64 0, .string ⟨#[]⟩, .string ⟨#[]⟩, .int .u64 0, .int .u64 0, .int .u64 0, .int .u64 0, .bool false, .int .u64 0, .int .u64 0, .bool false] : List Value).toArray 31) n2 k2Z
  have k41 := Blk.put_same l4Z ([.int .u64 (id.1 : Int), .int .u64 (id.2 : Int), .int .i64 1, .int .u64 0, .int .u64 (l.1 : Int), .int .u64 (l.2 : Int), .int .u64 0, .int .u64 0, .string tx, .int .i64 0, .int .i64 0, .float .f64 0, .string ⟨#[]⟩, .string ⟨#[]⟩, .int .u64 0, .int .u64 0, .int .u64 0, .int .u64 0, .bool false, .int .u64 0, .int .u64 0, .bool false] : List Value) 31
  have b1 := Sx.Below.put (b := b4) bZ (by omega) (.cells ([.int .u64 (id.1 : Int), .int .u64 (id.2 : Int), .int .i64 1, .int .u64 0, .int .u64 (l.1 : Int), .int .u64 (l.2 : Int), .int .u64 0, .int .u64 0, .string tx, .int .i64 0, .int .i64 0, .float .f64 0, .string ⟨#[]⟩, .string ⟨#[]⟩, .int .u64 0, .int .u64 0, .int .u64 0, .int .u64 0, .bool false, .int .u64 0, .int .u64 0, .bool false] : List Value).toArray 31)
  clear hS k2Z k4Z bZ l4Z
  generalize Z.putObj b4 (.cells ([.int .u64 (id.1 : Int), .int .u64 (id.2 : Int), .int .i64 1, .int .u64 0, .int .u64 (l.1 : Int), .int .u64 (l.2 : Int), .int .u64 0, .int .u64 0, .string tx, .int .i64 0, .int .i64 0, .float .f64 0, .string ⟨#[]⟩, .string ⟨#[]⟩, .int .u64 0, .int .u64 0, .int .u64 0, .int .u64 0, .bool false, .int .u64 0, .int .u64 0, .bool false] : List Value).toArray 31) = Z1 at *
  have hS := hS1
  have l41 := k41.lt
  have l21 := k21.lt
  refine S_takeV 6 1 rfl (by kernel_rfl) (by repeat (first | exact retQ_p | apply seqQ_p | apply blkQ_p | apply rndQ_p | apply cutQ_p)) hS ?_
  (refine Qb ?_)
  refine S_any [7] 0 rfl (by kernel_rfl) (all1 ?_)
  (refine Ga ?_)
  apply rnQ_n
  refine ⟨Blk.put_ne n1 hS, ?_⟩
  refine S_done (by kernel_rfl) ?_
  have k22 := Blk.put_ne (o := .cells ([.int .u64 (id.1 : Int), .int .u64 (id.2 : Int), .int .i64 1, .int .u64 0, .int .u64 (l.1 : Int), .int .u64 (l.2 : Int), .int .u64 (r.1 : Int), .int .u64 (r.2 : Int), .string tx, .int .i64 0, .int .i64 0, .float .f64 0, .string ⟨#[]⟩, .string ⟨#[]⟩, .int .u64 0, .int .u64 0, .int .u64 0, .int .u64 0, .bool false, .int .u64 0, .int .u64 0, .bool false] : List Value).toArray 31) n2 k21
  have k42 := Blk.put_same l41 ([.int .u64 (id.1 : Int), .int .u64 (id.2 : Int), .int .i64 1, .int .u64 0, .int .u64 (l.1 : Int), .int .u64 (l.2 : Int), .int .u64 (r.1 : Int), .int .u64 (r.2 : Int), .string tx, .int .i64 0, .int .i64 0, .float .f64 0, .string ⟨#[]⟩, .string ⟨#[]⟩, .int .u64 0, .int .u64 0, .int .u64 0, .int .u64 0, .bool false, .int .u64 0, .int .u64 0, .bool false] : List Value) 31
  have b2' := Sx.Below.put (b := b4) b1 (by omega) (.cells ([.int .u64 (id.1 : Int), .int .u64 (id.2 : Int), .int .i64 1, .int .u64 0, .int .u64 (l.1 : Int), .int .u64 (l.2 : Int), .int .u64 (r.1 : Int), .int .u64 (r.2 : Int), .string tx, .int .i64 0, .int .i64 0, .float .f64 0, .string ⟨#[]⟩, .string ⟨#[]⟩, .int .u64 0, .int .u64 0, .int .u64 0, .int .u64 0, .bool false, .int .u64 0, .int .u64 0, .bool false] : List Value).toArray 31)
  clear hS hS1 k21 k41 b1 l41 l21
  generalize Z1.putObj b4 (.cells ([.int .u64 (id.1 : Int), .int .u64 (id.2 : Int), .int .i64 1, .int .u64 0, .int .u64 (l.1 : Int), .int .u64 (l.2 : Int), .int .u64 (r.1 : Int), .int .u64 (r.2 : Int), .string tx, .int .i64 0, .int .i64 0, .float .f64 0, .string ⟨#[]⟩, .string ⟨#[]⟩, .int .u64 0, .int .u64 0, .int .u64 0, .int .u64 0, .bool false, .int .u64 0, .int .u64 0, .bool false] : List Value).toArray 31) = Z2 at *
  have l22 := k22.lt
  (refine Ga ?_)
  (refine Retat ?_)
  refine ⟨rfl, ?_⟩
  rw [← hbo]
  exact Sx.Below.put (b := b2) b2' (by omega) _
end
end Op
end Go.Proofs.YtifkedhbelflkaaDoor
