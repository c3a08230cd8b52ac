/- MarksSame's walk. -/
import Derived.Test.YtmgipnckojopcaaMkE
namespace Go.Proofs.Ytmgipnckojopcaa
set_option maxRecDepth 100000
namespace Mk
open Go Go.RowKit Sx Tl Sq Val
theorem mless_asymm {a b : Mo} (h : mless a b = true) : mless b a = false := by
  unfold mless at h ⊢
  rw [Bool.or_eq_true, Bool.and_eq_true, decide_eq_true_eq, decide_eq_true_eq] at h
  rw [Bool.or_eq_false_iff, Bool.and_eq_false_iff, decide_eq_false_iff_not, decide_eq_false_iff_not]
  rcases h with h | ⟨h, k⟩
  · exact ⟨by omega, .inl (by omega)⟩
  · exact ⟨by omega, .inr (Fo.lt_asymm k)⟩
section
attribute [local irreducible] RnS
attribute [local irreducible] W Lst Qst Pu seqQ blkQ rndQ cutQ retQ Does Enters IntKind.wrap bits sb World.alloc World.putObj Blk
-- printed by gen_msame.py
set_option maxHeartbeats 4000000 in
theorem law_MarksSame (l m : List Mk) (a b : Option Addr) (c d : Nat) (hl : ∀ q ∈ l, q.2.Fit) (hm : ∀ q ∈ m, q.2.Fit) (x y : Mo) (w : World) (h : SRows w 5 (.slice a l.length c) (l.map mcs)) (k : SRows w 5 (.slice b m.length d) (m.map mcs)) :
    Does Try.prog 3 #[.slice a l.length c, .slice b m.length d, .agg (ocs x).toArray, .agg (ocs y).toArray] w fun v w' => v = .bool true ∧ Below w.heap.size w w' := by
  refine Does_of (args := [.slice a l.length c, .slice b m.length d, .agg (ocs x).toArray, .agg (ocs y).toArray]) Try.func3 (by kernel_rfl) rfl rfl rfl rfl rfl ?_
  (refine Ga ?_)
  refine Lst_abs (fun A => Below w.heap.size w A ∧ Blk A w.heap.size (ocs x) 32 ∧ Blk A (w.heap.size + 1) (ocs y) 32) ⟨Bel, (by (repeat (first | assumption | (apply Blk.below (hb := hb1); rotate_left; (focus ((try simp only [Sx.sizes]); omega)); rotate_right) | (apply Blk.below (hb := hb2); rotate_left; (focus ((try simp only [Sx.sizes]); omega)); rotate_right) | (apply Blk.below (hb := hb3); rotate_left; (focus ((try simp only [Sx.sizes]); omega)); rotate_right) | (apply Blk.below (hb := hb4); rotate_left; (focus ((try simp only [Sx.sizes]); omega)); rotate_right) | (apply Blk.below (hb := hb5); rotate_left; (focus ((try simp only [Sx.sizes]); omega)); rotate_right) | (apply Blk.below (hb := hb6); rotate_left; (focus ((try simp only [Sx.sizes]); omega)); rotate_right) | (apply Blk.below (hb := hb7); rotate_left; (focus ((try simp only [Sx.sizes]); omega)); rotate_right) | (apply Blk.below (hb := hb8); rotate_left; (focus ((try simp only [Sx.sizes]); omega)); rotate_right) | (apply Blk.below (hb := hb9); rotate_left; (focus ((try simp only [Sx.sizes]); omega)); rotate_right) | exact Blk.newE (by first | rfl | ((try simp only [Sx.sizes]); first | done | omega)) _ _ | exact Blk.put_same (by (try simp only [Sx.sizes]); first | done | omega) _ _ | (apply Blk.put_ne; (focus omega)) | apply Blk.alloc | apply Blk.drew)); done), (by (repeat (first | assumption | (apply Blk.below (hb := hb1); rotate_left; (focus ((try simp only [Sx.sizes]); omega)); rotate_right) | (apply Blk.below (hb := hb2); rotate_left; (focus ((try simp only [Sx.sizes]); omega)); rotate_right) | (apply Blk.below (hb := hb3); rotate_left; (focus ((try simp only [Sx.sizes]); omega)); rotate_right) | (apply Blk.below (hb := hb4); rotate_left; (focus ((try simp only [Sx.sizes]); omega)); rotate_right) | (apply Blk.below (hb := hb5); rotate_left; (focus ((try simp only [Sx.sizes]); omega)); rotate_right) | (apply Blk.below (hb := hb6); rotate_left; (focus ((try simp only [Sx.sizes]); omega)); rotate_right) | (apply Blk.below (hb := hb7); rotate_left; (focus ((try simp only [Sx.sizes]); omega)); rotate_right) | (apply Blk.below (hb := hb8); rotate_left; (focus ((try simp only [Sx.sizes]); omega)); rotate_right) | (apply Blk.below (hb := hb9); rotate_left; (focus ((try simp only [Sx.sizes]); omega)); rotate_right) | exact Blk.newE (by first | rfl | ((try simp only [Sx.sizes]); first | done | omega)) _ _ | exact Blk.put_same (by (try simp only [Sx.sizes]); first | done | omega) _ _ | (apply Blk.put_ne; (focus omega)) | apply Blk.alloc | apply Blk.drew)); done)⟩ ?_
  rintro w1 ⟨hb1, kx, ky⟩
  (apply Lst_call; (focus rfl); (focus rfl))
  refine (c_known w1).mono ?_
  rintro v w2 ⟨rfl, hb2⟩
  have kx2 := kx.below hb2 kx.lt
  have ky2 := ky.below hb2 ky.lt
  have bw2 := hb1.trans (hb2.mono hb1.size)
  have h2 := SRows.below h bw2 (Nat.le_refl _)
  have k2 := SRows.below k bw2 (Nat.le_refl _)
  generalize hbe : w.heap.size = b0 at *
  by_cases hl1 : l.length ≤ 30
  · by_cases hm1 : m.length ≤ 30
    · (refine Ga ?_)
      refine W_drawS 37 (fun A => Below w2.heap.size w2 A) rfl rfl ?_
      refine S_takeV 0 36 rfl (by kernel_rfl) (by repeat (first | exact retQ_p | apply seqQ_p | apply blkQ_p | apply rndQ_p | apply cutQ_p)) (Below.drew (Below.refl w2.heap.size w2)) ?_
      (refine Qb ?_)
      refine S_takeV 1 35 rfl (by kernel_rfl) (by repeat (first | exact retQ_p | apply seqQ_p | apply blkQ_p | apply rndQ_p | apply cutQ_p)) (Below.drew (Below.refl w2.heap.size w2)) ?_
      (refine Qb ?_)
      refine S_takeV 3 34 rfl (by kernel_rfl) (by repeat (first | exact retQ_p | apply seqQ_p | apply blkQ_p | apply rndQ_p | apply cutQ_p)) (Below.drew (Below.refl w2.heap.size w2)) ?_
      (refine Qb ?_)
      refine S_takeV 4 33 rfl (by kernel_rfl) (by repeat (first | exact retQ_p | apply seqQ_p | apply blkQ_p | apply rndQ_p | apply cutQ_p)) (Below.drew (Below.refl w2.heap.size w2)) ?_
      (refine Qb ?_)
      refine S_any [2] 32 rfl (by kernel_rfl) (all1 ?_)
      (apply Lst_call; (focus rfl); (focus rfl))
      refine (c_MSame l m a b c d (by omega) hl hm _ (SRows.below h2 (Below.drew (Below.refl w2.heap.size w2)) (Nat.le_refl _)) (SRows.below k2 (Below.drew (Below.refl w2.heap.size w2)) (Nat.le_refl _))).mono ?_
      rintro v y1 ⟨rfl, hy1'⟩
      have hy1 : Below w2.heap.size w2 y1 := Below.trans (Below.drew (Below.refl w2.heap.size w2)) (Below.mono hy1' (Nat.le_refl _))
      apply Lst_nil
      apply rnQ_n
      refine ⟨hy1, ?_⟩
      refine S_any [5] 31 rfl (by kernel_rfl) (all1 ?_)
      (apply Lst_call; (focus rfl); (focus rfl))
      refine (r_Same l m a b c d (by omega) hl hm _ (SRows.below h2 hy1 (Nat.le_refl _)) (SRows.below k2 hy1 (Nat.le_refl _))).mono ?_
      rintro v y2 ⟨rfl, hy2'⟩
      have hy2 : Below w2.heap.size w2 y2 := Below.trans hy1 (Below.mono hy2' hy1.size)
      apply Lst_nil
      apply rnQ_n
      refine ⟨hy2, ?_⟩
      refine S_takeV 6 30 rfl (by kernel_rfl) (by repeat (first | exact retQ_p | apply seqQ_p | apply blkQ_p | apply rndQ_p | apply cutQ_p)) hy2 ?_
      (refine Qb ?_)
      refine S_takeV 7 29 rfl (by kernel_rfl) (by repeat (first | exact retQ_p | apply seqQ_p | apply blkQ_p | apply rndQ_p | apply cutQ_p)) hy2 ?_
      (refine Qb ?_)
      refine S_takeV 8 28 rfl (by kernel_rfl) (by repeat (first | exact retQ_p | apply seqQ_p | apply blkQ_p | apply rndQ_p | apply cutQ_p)) hy2 ?_
      (refine Qb ?_)
      refine S_takeV 9 27 rfl (by kernel_rfl) (by repeat (first | exact retQ_p | apply seqQ_p | apply blkQ_p | apply rndQ_p | apply cutQ_p)) hy2 ?_
      (refine Qb ?_)
      refine S_takeV 11 26 rfl (by kernel_rfl) (by repeat (first | exact retQ_p | apply seqQ_p | apply blkQ_p | apply rndQ_p | apply cutQ_p)) hy2 ?_
      (refine Qb ?_)
      refine S_takeV 12 25 rfl (by kernel_rfl) (by repeat (first | exact retQ_p | apply seqQ_p | apply blkQ_p | apply rndQ_p | apply cutQ_p)) hy2 ?_
      (refine Qb ?_)
      refine S_any [10] 24 rfl (by kernel_rfl) (all1 ?_)
      apply Lst_guard_t
      focus rfl
      focus rfl
      (apply Lst_call; (focus rfl); (focus rfl))
      refine (c_MSame l m a b c d (by omega) hl hm _ (SRows.below h2 hy2 (Nat.le_refl _)) (SRows.below k2 hy2 (Nat.le_refl _))).mono ?_
      rintro v y3 ⟨rfl, hy3'⟩
      have hy3 : Below w2.heap.size w2 y3 := Below.trans hy2 (Below.mono hy3' hy2.size)
      apply Lst_nil
      apply rnQ_n
      refine ⟨hy3, ?_⟩
      refine S_any [13] 23 rfl (by kernel_rfl) (all1 ?_)
      apply Lst_guard_t
      focus rfl
      focus rfl
      (apply Lst_call; (focus rfl); (focus rfl))
      refine (c_MSame m l b a d c (by omega) hm hl _ (SRows.below k2 hy3 (Nat.le_refl _)) (SRows.below h2 hy3 (Nat.le_refl _))).mono ?_
      rintro v y4 ⟨rfl, hy4'⟩
      rw [← sameL_comm l m]
      have hy4 : Below w2.heap.size w2 y4 := Below.trans hy3 (Below.mono hy4' hy3.size)
      apply Lst_nil
      apply rnQ_n
      refine ⟨hy4, ?_⟩
      refine S_takeV 14 22 rfl (by kernel_rfl) (by repeat (first | exact retQ_p | apply seqQ_p | apply blkQ_p | apply rndQ_p | apply cutQ_p)) hy4 ?_
      (refine Qb ?_)
      refine S_takeV 15 21 rfl (by kernel_rfl) (by repeat (first | exact retQ_p | apply seqQ_p | apply blkQ_p | apply rndQ_p | apply cutQ_p)) hy4 ?_
      (refine Qb ?_)
      refine S_takeV 16 20 rfl (by kernel_rfl) (by repeat (first | exact retQ_p | apply seqQ_p | apply blkQ_p | apply rndQ_p | apply cutQ_p)) hy4 ?_
      (refine Qb ?_)
      refine S_takeV 17 19 rfl (by kernel_rfl) (by repeat (first | exact retQ_p | apply seqQ_p | apply blkQ_p | apply rndQ_p | apply cutQ_p)) hy4 ?_
      apply Qst_guard_t
      focus rfl
      focus rfl
      apply Qst_loadA (cs := ocs x)
      focus rfl
      focus rfl
      focus rfl
      focus rfl
      focus rfl
      focus exact fun B hB => kx2.below hB kx2.lt
      focus (unfold ocs; repeat constructor)
      focus rfl
      (refine Qb ?_)
      refine S_takeV 18 18 rfl (by kernel_rfl) (by repeat (first | exact retQ_p | apply seqQ_p | apply blkQ_p | apply rndQ_p | apply cutQ_p)) hy4 ?_
      apply Qst_guard_t
      focus rfl
      focus rfl
      apply Qst_loadA (cs := ocs y)
      focus rfl
      focus rfl
      focus rfl
      focus rfl
      focus rfl
      focus exact fun B hB => ky2.below hB ky2.lt
      focus (unfold ocs; repeat constructor)
      focus rfl
      (refine Qb ?_)
      refine S_takeV 20 17 rfl (by kernel_rfl) (by repeat (first | exact retQ_p | apply seqQ_p | apply blkQ_p | apply rndQ_p | apply cutQ_p)) hy4 ?_
      apply Qst_guard_t
      focus rfl
      focus rfl
      apply Qst_loadA (cs := ocs x)
      focus rfl
      focus rfl
      focus rfl
      focus rfl
      focus rfl
      focus exact fun B hB => kx2.below hB kx2.lt
      focus (unfold ocs; repeat constructor)
      focus rfl
      (refine Qb ?_)
      refine S_takeV 21 16 rfl (by kernel_rfl) (by repeat (first | exact retQ_p | apply seqQ_p | apply blkQ_p | apply rndQ_p | apply cutQ_p)) hy4 ?_
      apply Qst_guard_t
      focus rfl
      focus rfl
      apply Qst_loadA (cs := ocs y)
      focus rfl
      focus rfl
      focus rfl
      focus rfl
      focus rfl
      focus exact fun B hB => ky2.below hB ky2.lt
      focus (unfold ocs; repeat constructor)
      focus rfl
      (refine Qb ?_)
      refine S_any [19] 15 rfl (by kernel_rfl) (all1 ?_)
      apply Lst_guard_t
      focus rfl
      focus rfl
      (apply Lst_call; (focus rfl); (focus rfl))
      refine (c_MLess x y _).mono ?_
      rintro v y5 ⟨rfl, hy5'⟩
      have hy5 : Below w2.heap.size w2 y5 := Below.trans hy4 (Below.mono hy5' hy4.size)
      apply Lst_nil
      apply rnQ_n
      refine ⟨hy5, ?_⟩
      refine S_any [22] 14 rfl (by kernel_rfl) (all1 ?_)
      apply Lst_guard_t
      focus rfl
      focus rfl
      (apply Lst_call; (focus rfl); (focus rfl))
      refine (r_Less11 x y _).mono ?_
      rintro v y6 ⟨rfl, hy6'⟩
      have hy6 : Below w2.heap.size w2 y6 := Below.trans hy5 (Below.mono hy6' hy5.size)
      apply Lst_nil
      apply rnQ_n
      refine ⟨hy6, ?_⟩
      refine S_takeV 23 13 rfl (by kernel_rfl) (by repeat (first | exact retQ_p | apply seqQ_p | apply blkQ_p | apply rndQ_p | apply cutQ_p)) hy6 ?_
      (refine Qb ?_)
      refine S_takeV 24 12 rfl (by kernel_rfl) (by repeat (first | exact retQ_p | apply seqQ_p | apply blkQ_p | apply rndQ_p | apply cutQ_p)) hy6 ?_
      (refine Qb ?_)
      refine S_takeV 25 11 rfl (by kernel_rfl) (by repeat (first | exact retQ_p | apply seqQ_p | apply blkQ_p | apply rndQ_p | apply cutQ_p)) hy6 ?_
      (refine Qb ?_)
      refine S_takeV 26 10 rfl (by kernel_rfl) (by repeat (first | exact retQ_p | apply seqQ_p | apply blkQ_p | apply rndQ_p | apply cutQ_p)) hy6 ?_
      apply Qst_guard_t
      focus rfl
      focus rfl
      apply Qst_loadA (cs := ocs x)
      focus rfl
      focus rfl
      focus rfl
      focus rfl
      focus rfl
      focus exact fun B hB => kx2.below hB kx2.lt
      focus (unfold ocs; repeat constructor)
      focus rfl
      (refine Qb ?_)
      refine S_takeV 27 9 rfl (by kernel_rfl) (by repeat (first | exact retQ_p | apply seqQ_p | apply blkQ_p | apply rndQ_p | apply cutQ_p)) hy6 ?_
      apply Qst_guard_t
      focus rfl
      focus rfl
      apply Qst_loadA (cs := ocs y)
      focus rfl
      focus rfl
      focus rfl
      focus rfl
      focus rfl
      focus exact fun B hB => ky2.below hB ky2.lt
      focus (unfold ocs; repeat constructor)
      focus rfl
      (refine Qb ?_)
      refine S_any [28] 8 rfl (by kernel_rfl) (all1 ?_)
      apply Lst_guard_t
      focus rfl
      focus rfl
      (apply Lst_call; (focus rfl); (focus rfl))
      refine (c_MLess x y _).mono ?_
      rintro v y7 ⟨rfl, hy7'⟩
      have hy7 : Below w2.heap.size w2 y7 := Below.trans hy6 (Below.mono hy7' hy6.size)
      apply Lst_nil
      apply rnQ_n
      refine ⟨hy7, ?_⟩
      cases hxy : mless x y with
      | true =>
        refine S_takeV 29 7 rfl (by kernel_rfl) (by repeat (first | exact retQ_p | apply seqQ_p | apply blkQ_p | apply rndQ_p | apply cutQ_p)) hy7 ?_
        (refine Qb ?_)
        refine S_takeV 30 6 rfl (by kernel_rfl) (by repeat (first | exact retQ_p | apply seqQ_p | apply blkQ_p | apply rndQ_p | apply cutQ_p)) hy7 ?_
        apply Qst_guard_t
        focus rfl
        focus rfl
        apply Qst_loadA (cs := ocs y)
        focus rfl
        focus rfl
        focus rfl
        focus rfl
        focus rfl
        focus exact fun B hB => ky2.below hB ky2.lt
        focus (unfold ocs; repeat constructor)
        focus rfl
        (refine Qb ?_)
        refine S_takeV 31 5 rfl (by kernel_rfl) (by repeat (first | exact retQ_p | apply seqQ_p | apply blkQ_p | apply rndQ_p | apply cutQ_p)) hy7 ?_
        apply Qst_guard_t
        focus rfl
        focus rfl
        apply Qst_loadA (cs := ocs x)
        focus rfl
        focus rfl
        focus rfl
        focus rfl
        focus rfl
        focus exact fun B hB => kx2.below hB kx2.lt
        focus (unfold ocs; repeat constructor)
        focus rfl
        (refine Qb ?_)
        refine S_any [32] 4 rfl (by kernel_rfl) (all1 ?_)
        apply Lst_guard_t
        focus rfl
        focus rfl
        (apply Lst_call; (focus rfl); (focus rfl))
        refine (c_MLess y x _).mono ?_
        rintro v y8 ⟨rfl, hy8'⟩
        rw [mless_asymm hxy]
        have hy8 : Below w2.heap.size w2 y8 := Below.trans hy7 (Below.mono hy8' hy7.size)
        apply Lst_nil
        apply rnQ_n
        refine ⟨hy8, ?_⟩
        refine S_takeV 33 3 rfl (by kernel_rfl) (by repeat (first | exact retQ_p | apply seqQ_p | apply blkQ_p | apply rndQ_p | apply cutQ_p)) hy8 ?_
        (refine Qb ?_)
        refine S_takeV 34 2 rfl (by kernel_rfl) (by repeat (first | exact retQ_p | apply seqQ_p | apply blkQ_p | apply rndQ_p | apply cutQ_p)) hy8 ?_
        (refine Qb ?_)
        refine S_takeV 35 1 rfl (by kernel_rfl) (by repeat (first | exact retQ_p | apply seqQ_p | apply blkQ_p | apply rndQ_p | apply cutQ_p)) hy8 ?_
        (refine Qb ?_)
        refine S_takeV 36 0 rfl (by kernel_rfl) (by repeat (first | exact retQ_p | apply seqQ_p | apply blkQ_p | apply rndQ_p | apply cutQ_p)) hy8 ?_
        (refine Qb ?_)
        refine S_done (by kernel_rfl) ?_
        (refine Ga ?_)
        (apply retQ1; (focus rfl))
        exact ⟨rfl, bw2.trans (Below.mono hy8 (hbe ▸ bw2.size))⟩
      | false =>
        refine S_takeV 29 7 rfl (by kernel_rfl) (by repeat (first | exact retQ_p | apply seqQ_p | apply blkQ_p | apply rndQ_p | apply cutQ_p)) hy7 ?_
        (refine Qb ?_)
        refine S_takeV 30 6 rfl (by kernel_rfl) (by repeat (first | exact retQ_p | apply seqQ_p | apply blkQ_p | apply rndQ_p | apply cutQ_p)) hy7 ?_
        (refine Qb ?_)
        refine S_takeV 31 5 rfl (by kernel_rfl) (by repeat (first | exact retQ_p | apply seqQ_p | apply blkQ_p | apply rndQ_p | apply cutQ_p)) hy7 ?_
        (refine Qb ?_)
        refine S_any [32] 4 rfl (by kernel_rfl) (all1 ?_)
        (refine Ga ?_)
        apply rnQ_n
        refine ⟨hy7, ?_⟩
        refine S_takeV 33 3 rfl (by kernel_rfl) (by repeat (first | exact retQ_p | apply seqQ_p | apply blkQ_p | apply rndQ_p | apply cutQ_p)) hy7 ?_
        (refine Qb ?_)
        refine S_takeV 34 2 rfl (by kernel_rfl) (by repeat (first | exact retQ_p | apply seqQ_p | apply blkQ_p | apply rndQ_p | apply cutQ_p)) hy7 ?_
        (refine Qb ?_)
        refine S_takeV 35 1 rfl (by kernel_rfl) (by repeat (first | exact retQ_p | apply seqQ_p | apply blkQ_p | apply rndQ_p | apply cutQ_p)) hy7 ?_
        (refine Qb ?_)
        refine S_takeV 36 0 rfl (by kernel_rfl) (by repeat (first | exact retQ_p | apply seqQ_p | apply blkQ_p | apply rndQ_p | apply cutQ_p)) hy7 ?_
        (refine Qb ?_)
        refine S_done (by kernel_rfl) ?_
        (refine Ga ?_)
        (apply retQ1; (focus rfl))
        exact ⟨rfl, bw2.trans (Below.mono hy7 (hbe ▸ bw2.size))⟩
    · (refine Ga ?_)
      (apply retQ1; (focus rfl))
      exact ⟨rfl, bw2⟩
  · (refine Ga ?_)
    (apply retQ1; (focus rfl))
    exact ⟨rfl, bw2⟩
end
end Mk
end Go.Proofs.Ytmgipnckojopcaa
