/- Package ops: Check takes each text that the document takes. -/
import Derived.Test.YtifkedhbelflkaaDoorOqOpD
namespace Go.Proofs.YtifkedhbelflkaaDoor
set_option maxRecDepth 100000
namespace Op
open Go Go.RowKit Sx Tl Val
open Utf (rs tl Tabs)
theorem zero_fit : (⟨0, 0, 0, ⟨#[]⟩⟩ : Vl).Fit := ⟨by dsimp only; omega, by dsimp only; omega, by dsimp only; omega, by dsimp only; omega, by dsimp only; omega, (show (0 : Nat) < 140737488355328 by decide)⟩
theorem okT_fit {o : Mo} (h : OkT o) : o.v.Fit := by rw [h.v]; exact zero_fit
theorem sameO_self {o : Mo} (h : o.v = ⟨0, 0, 0, ⟨#[]⟩⟩) : sameO o o = true := by
  have e : cmpV o.v o.v = 0 := by rw [h]; rfl
  simp [sameO, e]
theorem none_right : rightId none' = false := rfl
theorem ok_bad {o : Mo} (h : OkT o) : (nms o).all (fun x => !(!nm x || (rightId x && hasR (rngO o) x))) = true := by
  have hlen : len o = (rs (tl o.tx)).length := by unfold len; rw [if_pos h.k]
  have hn : ∀ x, nm x = true → ¬ (x.1 = o.id.1 ∧ o.id.2 ≤ x.2 ∧ x.2 < o.id.2 + (rs (tl o.tx)).length) → (!(!nm x || (rightId x && hasR (rngO o) x))) = true := fun x hx hf => by
    rw [hx]
    have : hasR (rngO o) x = false := by
      unfold hasR rngO
      rw [hlen]
      cases rightR (o.id.1, o.id.2, o.id.2 + (rs (tl o.tx)).length) with
      | false => rfl
      | true =>
        rw [Bool.true_and]
        dsimp only
        by_cases h1 : o.id.1 = x.1
        · by_cases h2 : o.id.2 ≤ x.2
          · rw [decide_eq_false (fun h3 => hf ⟨h1.symm, h2, h3⟩), Bool.and_false, Bool.and_false]
          · rw [decide_eq_false h2, Bool.false_and, Bool.and_false]
        · rw [decide_eq_false h1, Bool.false_and]
    rw [this, Bool.and_false]
    rfl
  have h0 : ∀ x, x = none' → (!(!nm x || (rightId x && hasR (rngO o) x))) = true := fun x e => by
    rw [e, none_right, Bool.false_and]
    rfl
  refine List.all_eq_true.2 fun x hx => ?_
  unfold nms at hx
  simp only [List.mem_cons, List.not_mem_nil, or_false] at hx
  rcases hx with rfl | rfl | rfl | rfl | rfl
  · exact hn _ h.l h.fl
  · exact hn _ h.r h.frr
  · exact h0 _ (by rw [h.fr])
  · exact h0 _ (by rw [h.til])
  · exact h0 _ h.par
def oz : Mo := ⟨(0, 0), 0, 0, (0, 0), (0, 0), ⟨#[]⟩, ⟨0, 0, 0, ⟨#[]⟩⟩, ⟨#[]⟩, (0, 0), ⟨(0, 0), false⟩, ⟨(0, 0), false⟩⟩
section
attribute [local irreducible] RnS
attribute [local irreducible] W Lst Qst Pu seqQ blkQ rndQ cutQ retQ Does Enters IntKind.wrap bits sb World.alloc World.putObj Blk
set_option maxHeartbeats 4000000 in
theorem c_OCheck (o : Mo) (h : OkT o) (hs : o.tx.size ≤ 1000000) (w : World) (hT : Tabs w) : Does Tryd.prog 12 #[.agg (ocs o).toArray] w fun v w' => v = .int .i64 0 ∧ Below w.heap.size w w' := by
  refine Does_of (args := [.agg (ocs o).toArray]) Tryd.func12 (by kernel_rfl) rfl rfl rfl rfl rfl ?_
  have hlen : len o = (rs (tl o.tx)).length := by unfold len; rw [if_pos h.k]
  have hhi := h.hi
  have hn1 := h.n1
  have hclk := right_hi h.id
  unfold ocs
  (refine Ga ?_)
  refine Lst_abs (fun A => Below w.heap.size w A ∧ Blk A w.heap.size (ocs o) 31) ⟨Bel, by unfold ocs; exact (by (repeat (first | assumption | (apply Blk.below (hb := hb1); rotate_left; (focus ((try simp only [Sx.sizes]); omega)); rotate_right) | (apply Blk.below (hb := hb2); rotate_left; (focus ((try simp only [Sx.sizes]); omega)); rotate_right) | (apply Blk.below (hb := hb3); rotate_left; (focus ((try simp only [Sx.sizes]); omega)); rotate_right) | (apply Blk.below (hb := hb4); rotate_left; (focus ((try simp only [Sx.sizes]); omega)); rotate_right) | (apply Blk.below (hb := hb5); rotate_left; (focus ((try simp only [Sx.sizes]); omega)); rotate_right) | (apply Blk.below (hb := hb6); rotate_left; (focus ((try simp only [Sx.sizes]); omega)); rotate_right) | (apply Blk.below (hb := hb7); rotate_left; (focus ((try simp only [Sx.sizes]); omega)); rotate_right) | (apply Blk.below (hb := hb8); rotate_left; (focus ((try simp only [Sx.sizes]); omega)); rotate_right) | (apply Blk.below (hb := hb9); rotate_left; (focus ((try simp only [Sx.sizes]); omega)); rotate_right) | exact Blk.newE (by first | rfl | ((try simp only [Sx.sizes]); first | done | omega)) _ _ | exact Blk.put_same (by (try simp only [Sx.sizes]); first | done | omega) _ _ | (apply Blk.put_ne; (focus omega)) | apply Blk.alloc | apply Blk.drew)); done)⟩ ?_
  rintro A ⟨bA, k0⟩
  have sA := bA.size
  (apply Lst_call; (focus rfl); (focus rfl))
  refine (c_bare o h hs A (hT.below bA)).mono ?_
  rintro v B ⟨rfl, hB⟩
  have bB := bA.trans (hB.mono sA)
  have k0B := k0.below hB k0.lt
  have sB := Nat.le_trans sA hB.size
  have l0 := k0B.lt
  have kU := k0B
  unfold ocs at kU
  unfold ocs
  (refine Ga ?_)
  refine Lst_abs (fun C => Below B.heap.size B C ∧ Blk C B.heap.size (ocs o) 31) ⟨Bel, by unfold ocs; exact (by (repeat (first | assumption | (apply Blk.below (hb := hb1); rotate_left; (focus ((try simp only [Sx.sizes]); omega)); rotate_right) | (apply Blk.below (hb := hb2); rotate_left; (focus ((try simp only [Sx.sizes]); omega)); rotate_right) | (apply Blk.below (hb := hb3); rotate_left; (focus ((try simp only [Sx.sizes]); omega)); rotate_right) | (apply Blk.below (hb := hb4); rotate_left; (focus ((try simp only [Sx.sizes]); omega)); rotate_right) | (apply Blk.below (hb := hb5); rotate_left; (focus ((try simp only [Sx.sizes]); omega)); rotate_right) | (apply Blk.below (hb := hb6); rotate_left; (focus ((try simp only [Sx.sizes]); omega)); rotate_right) | (apply Blk.below (hb := hb7); rotate_left; (focus ((try simp only [Sx.sizes]); omega)); rotate_right) | (apply Blk.below (hb := hb8); rotate_left; (focus ((try simp only [Sx.sizes]); omega)); rotate_right) | (apply Blk.below (hb := hb9); rotate_left; (focus ((try simp only [Sx.sizes]); omega)); rotate_right) | exact Blk.newE (by first | rfl | ((try simp only [Sx.sizes]); first | done | omega)) _ _ | exact Blk.put_same (by (try simp only [Sx.sizes]); first | done | omega) _ _ | (apply Blk.put_ne; (focus omega)) | apply Blk.alloc | apply Blk.drew)); done)⟩ ?_
  rintro C ⟨hC, kx⟩
  have bC := bB.trans (hC.mono sB)
  have k0C := k0B.below hC l0
  have sC := Nat.le_trans sB hC.size
  have lC := k0C.lt
  clear kU bA hB hC k0 k0B sA
  generalize B.heap.size = bx at *
  (apply Lst_call; (focus rfl); (focus rfl))
  refine (c_Same8 o o (okT_fit h) (okT_fit h) C).mono ?_
  rintro v D ⟨rfl, hD⟩
  rw [sameO_self h.v]
  have bD := bC.trans (hD.mono sC)
  have k0D := k0C.below hD lC
  have sD := Nat.le_trans sC hD.size
  have kU := k0D
  unfold ocs at kU
  have lU := kU.lt
  (refine Ga ?_)
  (apply Lst_call; (focus rfl); (focus rfl))
  refine (c_Right o.id D).mono ?_
  rintro v E ⟨rfl, hE⟩
  rw [h.id]
  have bE := bD.trans (hE.mono sD)
  have k0E := k0D.below hE lU
  have sE := Nat.le_trans sD hE.size
  clear kU
  have kU := k0E
  unfold ocs at kU
  have lU := kU.lt
  (refine Ga ?_)
  (apply Lst_call; (focus rfl); (focus rfl))
  refine (c_Range o hs (by omega) E (hT.below bE)).mono ?_
  rintro v G ⟨rfl, hG⟩
  have bG := bE.trans (hG.mono sE)
  have k0G := k0E.below hG lU
  have sG := Nat.le_trans sE hG.size
  clear kU
  have kU := k0G
  unfold ocs at kU
  have lU := kU.lt
  unfold rcs rngO
  dsimp only
  rw [hlen]
  (refine Ga ?_)
  refine Lst_abs (fun H => Below G.heap.size G H ∧ Blk H G.heap.size (rcs (rngO o)) 47) ⟨Bel, by unfold rcs rngO; dsimp only; rw [hlen]; exact (by (repeat (first | assumption | (apply Blk.below (hb := hb1); rotate_left; (focus ((try simp only [Sx.sizes]); omega)); rotate_right) | (apply Blk.below (hb := hb2); rotate_left; (focus ((try simp only [Sx.sizes]); omega)); rotate_right) | (apply Blk.below (hb := hb3); rotate_left; (focus ((try simp only [Sx.sizes]); omega)); rotate_right) | (apply Blk.below (hb := hb4); rotate_left; (focus ((try simp only [Sx.sizes]); omega)); rotate_right) | (apply Blk.below (hb := hb5); rotate_left; (focus ((try simp only [Sx.sizes]); omega)); rotate_right) | (apply Blk.below (hb := hb6); rotate_left; (focus ((try simp only [Sx.sizes]); omega)); rotate_right) | (apply Blk.below (hb := hb7); rotate_left; (focus ((try simp only [Sx.sizes]); omega)); rotate_right) | (apply Blk.below (hb := hb8); rotate_left; (focus ((try simp only [Sx.sizes]); omega)); rotate_right) | (apply Blk.below (hb := hb9); rotate_left; (focus ((try simp only [Sx.sizes]); omega)); rotate_right) | exact Blk.newE (by first | rfl | ((try simp only [Sx.sizes]); first | done | omega)) _ _ | exact Blk.put_same (by (try simp only [Sx.sizes]); first | done | omega) _ _ | (apply Blk.put_ne; (focus omega)) | apply Blk.alloc | apply Blk.drew)); done)⟩ ?_
  rintro H ⟨hH, kr⟩
  have bH := bG.trans (hH.mono sG)
  have k0H := k0G.below hH lU
  have lr := kr.lt
  have sH := Nat.le_trans sG hH.size
  generalize G.heap.size = br at *
  (apply Lst_call; (focus rfl); (focus rfl))
  refine (c_names o H).mono ?_
  rintro v I ⟨bn, rfl, hrow, hI⟩
  have bI := bH.trans (hI.mono sH)
  have krI := kr.below hI lr
  have sI := Nat.le_trans sH hI.size
  (refine Ga ?_)
  (apply Lst_call; (focus rfl); (focus rfl))
  refine (c_ContainsI (nms o) (fun x => !nm x || (rightId x && hasR (rngO o) x)) 41 [.pointer (some ⟨br, 0, none⟩)] (some ⟨bn, 0, none⟩) 5 (show 5 ≤ 1000000 by decide) I hrow fun x _ A' hA' => c_bad (rngO o) x br A' (krI.below hA' krI.lt)).mono ?_
  rintro v K ⟨rfl, hK⟩
  rw [ok_bad h]
  (refine Ga ?_)
  (apply retQ1; (focus rfl))
  exact ⟨rfl, bI.trans (hK.mono sI)⟩
set_option maxHeartbeats 4000000 in
theorem c_bare0 (w : World) : Does Tryd.prog 38 #[.agg (ocs oz).toArray] w fun v w' => (∃ u, v = .tuple #[.agg (ocs u).toArray, .bool false]) ∧ Below w.heap.size w w' := by
  refine Does_of (args := [.agg (ocs oz).toArray]) Tryd.func38 (by kernel_rfl) rfl rfl rfl rfl rfl ?_
  unfold ocs oz
  dsimp only
  (refine Ga ?_)
  (refine Retat ?_)
  exact ⟨⟨oz, rfl⟩, Bel⟩
set_option maxHeartbeats 4000000 in
theorem c_OCheck0 (w : World) : Does Tryd.prog 12 #[.agg (ocs oz).toArray] w fun v w' => v = .int .i64 120 ∧ Below w.heap.size w w' := by
  refine Does_of (args := [.agg (ocs oz).toArray]) Tryd.func12 (by kernel_rfl) rfl rfl rfl rfl rfl ?_
  unfold ocs oz
  dsimp only
  (refine Ga ?_)
  refine Lst_abs (fun A => Below w.heap.size w A) Bel ?_
  rintro A bA
  (apply Lst_call; (focus rfl); (focus rfl))
  refine (c_bare0 A).mono ?_
  rintro v B ⟨⟨u, rfl⟩, hB⟩
  have bB := bA.trans (hB.mono bA.size)
  have sB := bB.size
  unfold ocs
  (refine Ga ?_)
  (apply retQ1; (focus rfl))
  exact ⟨rfl, Sx.Below.after (w := w) bB Bel⟩
end
end Op
end Go.Proofs.YtifkedhbelflkaaDoor
