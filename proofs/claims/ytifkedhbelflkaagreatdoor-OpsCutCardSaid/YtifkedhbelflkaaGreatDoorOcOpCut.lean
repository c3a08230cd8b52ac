/- OpsCut's walk. -/
import Derived.Test.YtifkedhbelflkaaGreatDoorOcOpL
import Derived.Test.YtifkedhbelflkaaGreatDoorOcPlace
namespace Go.Proofs.YtifkedhbelflkaaGreatDoor
set_option maxRecDepth 100000
namespace Op
open Go Go.RowKit Sx Fl Tl Val
open Utf (rs tl Tabs cutS)
theorem cmpI_self (a : Int) : cmpI a a = 0 := by unfold cmpI; rw [if_neg (by omega), if_neg (by omega)]
theorem compareB_self : ∀ l : List UInt8, Lib.compareBytes l l = 0
  | [] => by simp [Lib.compareBytes]
  | a :: l => by simp [Lib.compareBytes, compareB_self l]
theorem nbits_K (f : Nat) : K (nbits f) = K f := by
  unfold nbits
  by_cases h : isNaN f = true
  · rw [if_pos h, K_nan h, K_nan (by decide)]
  · rw [if_neg h]
theorem cmpV_cl (x : Vl) : cmpV (cleanV x) x = 0 := by
  unfold cmpV cleanV
  dsimp only
  rw [nbits_K, cmpI_self, cmpI_self, cmpI_self]
  unfold cmpS
  rw [compareB_self]
  rfl
theorem clean_fit {x : Vl} (h : x.Fit) : (cleanV x).Fit := by
  refine ⟨h.k0, h.k1, h.n0, h.n1, ?_, h.s1⟩
  show nbits x.f < _
  unfold nbits
  split
  · decide
  · exact h.f1
/-- What Cut tells. -/
def cutP (o : Mo) (f t : Int) (v : Vl) : Mo := if 0 ≤ f ∧ f < t ∧ t ≤ (len o : Int) then (if o.k = 1 then cutO o f.toNat t.toNat else { o with v := v }) else oz
theorem cutR_eq (o : Mo) (f t : Int) (v : Vl) : cutR o f t v = .tuple #[.agg (ocs (cutP o f t v)).toArray, .bool (decide (0 ≤ f ∧ f < t ∧ t ≤ (len o : Int)))] := by
  unfold cutR cutP
  by_cases h : 0 ≤ f ∧ f < t ∧ t ≤ (len o : Int)
  · rw [if_pos h, if_pos h, decide_eq_true h]
  · rw [if_neg h, if_neg h, decide_eq_false h]
theorem sameO_v {a : Mo} {v : Vl} (h : cmpV v a.v = 0) : sameO { a with v := v } a = true := by simp [sameO, h]
theorem cut_same {o : Mo} (h : o.k = 1 → OkT o) (f t : Int) : sameO (cutP o f t (cleanV o.v)) (cutP o f t o.v) = true := by
  unfold cutP
  split
  · split
    · rename_i hk
      exact sameO_self (h hk).v
    · exact sameO_v (cmpV_cl o.v)
  · exact sameO_self rfl
theorem cut_fit {o : Mo} (h : o.v.Fit) (v : Vl) (hv : v.Fit) (f t : Int) : (cutP o f t v).v.Fit := by
  unfold cutP
  split
  · split
    · exact h
    · exact hv
  · exact zero_fit
theorem two_dis {y x : Mo} (h : y.id ≠ x.id) : Dis (fid [y, x]) [y, x].length := fun p q hp hq e => by
  have hp : p = 0 ∨ p = 1 := by simp at hp; omega
  have hq : q = 0 ∨ q = 1 := by simp at hq; omega
  rcases hp with rfl | rfl <;> rcases hq with rfl | rfl
  · rfl
  · exact absurd e h
  · exact absurd e.symm h
  · rfl
theorem cat_two (x y : Mo) : (catS [x, y]).size = x.tx.size + y.tx.size := by
  unfold catS
  show (Lib.join [x.tx.data.toList, y.tx.data.toList] []).toArray.size = _
  rw [join_nil_cons, join_nil_cons]
  simp [Lib.join]
section
attribute [local irreducible] RnS
attribute [local irreducible] W Lst Qst Pu seqQ blkQ rndQ cutQ retQ Does Enters IntKind.wrap bits sb World.alloc World.putObj Blk
set_option maxHeartbeats 4000000 in
theorem law_OpsCut (o : Mo) (hfit : o.v.Fit) (f t at' : Int) (hf : -9223372036854775808 ≤ f ∧ f < 9223372036854775808) (w : World) (hT : Tabs w) : Does Tryz.prog 3 #[.agg (ocs o).toArray, .int .i64 f, .int .i64 t, .int .i64 at'] w fun v w' => v = .bool true ∧ Below w.heap.size w w' := by
  refine Does_of (args := [.agg (ocs o).toArray, .int .i64 f, .int .i64 t, .int .i64 at']) Tryz.func3 (by kernel_rfl) rfl rfl rfl rfl rfl ?_
  unfold ocs
  (refine Ga ?_)
  refine Lst_abs (fun A => Below w.heap.size w A ∧ Blk A w.heap.size (ocs o) 31) ⟨Bel, by unfold ocs; exact (by (repeat (first | assumption | (apply Blk.below (hb := hb1); rotate_left; (focus ((try simp only [Sx.sizes]); omega)); rotate_right) | (apply Blk.below (hb := hb2); rotate_left; (focus ((try simp only [Sx.sizes]); omega)); rotate_right) | (apply Blk.below (hb := hb3); rotate_left; (focus ((try simp only [Sx.sizes]); omega)); rotate_right) | (apply Blk.below (hb := hb4); rotate_left; (focus ((try simp only [Sx.sizes]); omega)); rotate_right) | (apply Blk.below (hb := hb5); rotate_left; (focus ((try simp only [Sx.sizes]); omega)); rotate_right) | (apply Blk.below (hb := hb6); rotate_left; (focus ((try simp only [Sx.sizes]); omega)); rotate_right) | (apply Blk.below (hb := hb7); rotate_left; (focus ((try simp only [Sx.sizes]); omega)); rotate_right) | (apply Blk.below (hb := hb8); rotate_left; (focus ((try simp only [Sx.sizes]); omega)); rotate_right) | (apply Blk.below (hb := hb9); rotate_left; (focus ((try simp only [Sx.sizes]); omega)); rotate_right) | exact Blk.newE (by first | rfl | ((try simp only [Sx.sizes]); first | done | omega)) _ _ | exact Blk.put_same (by (try simp only [Sx.sizes]); first | done | omega) _ _ | (apply Blk.put_ne; (focus omega)) | apply Blk.alloc | apply Blk.drew)); done)⟩ ?_
  rintro A ⟨bA, k0⟩
  have sA := bA.size
  (apply Lst_call; (focus rfl); (focus rfl))
  refine (c_known8 A (hT.below bA)).mono ?_
  rintro v B ⟨rfl, hB⟩
  have bB := bA.trans (hB.mono sA)
  have sB := bB.size
  have k0B := k0.below hB k0.lt
  have l0B := k0B.lt
  have u0 := k0B
  unfold ocs at u0
  (refine Ga ?_)
  (apply Lst_call; (focus rfl); (focus rfl))
  refine (c_light8 o B).mono ?_
  rintro v C ⟨⟨b, rfl, hli⟩, hC⟩
  have bC := bB.trans (hC.mono sB)
  have sC := bC.size
  have k0C := k0B.below hC l0B
  have l0C := k0C.lt
  cases b with
  | false =>
    (refine Ga ?_)
    (apply retQ1; (focus rfl))
    exact ⟨rfl, bC⟩
  | true =>
    obtain ⟨hs2, hk2, _⟩ := hli rfl
    have hs : o.tx.size ≤ 1000000 := by omega
    clear u0
    have u0 := k0C
    unfold ocs at u0
    (refine Ga ?_)
    (apply Lst_call; (focus rfl); (focus rfl))
    refine (o_Check o hk2 hs C).mono ?_
    rintro v D ⟨z, rfl, hz, hD⟩
    have bD := bC.trans (hD.mono sC)
    have sD := bD.size
    have k0D := k0C.below hD l0C
    have l0D := k0D.lt
    by_cases hz0 : z = 0
    · obtain ⟨hid, hok⟩ := hz hz0
      subst hz0
      have hclk := right_hi hid
      clear u0
      have u0 := k0D
      unfold ocs at u0
      (refine Ga ?_)
      (apply Lst_call; (focus rfl); (focus rfl))
      refine (o_Len o hs D).mono ?_
      rintro v E ⟨rfl, hE⟩
      have bE := bD.trans (hE.mono sD)
      have sE := bE.size
      have k0E := k0D.below hE l0D
      have l0E := k0E.lt
      clear u0
      have u0 := k0E
      unfold ocs at u0
      (refine Ga ?_)
      (apply Lst_call; (focus rfl); (focus rfl))
      refine (c_OCut o hok hs f t hf E (hT.below bE)).mono ?_
      rintro v F ⟨rfl, hF⟩
      have bF := bE.trans (hF.mono sE)
      have sF := bF.size
      have k0F := k0E.below hF l0E
      have l0F := k0F.lt
      rw [cutR_eq]
      obtain ⟨pa, hpa⟩ : ∃ p, cutP o f t (cleanV o.v) = p := ⟨_, rfl⟩
      rw [hpa]
      clear u0
      unfold ocs
      (refine Ga ?_)
      refine Lst_abs (fun X => Below F.heap.size F X ∧ Blk X F.heap.size (ocs pa) 31) ⟨Bel, by unfold ocs; exact (by (repeat (first | assumption | (apply Blk.below (hb := hb1); rotate_left; (focus ((try simp only [Sx.sizes]); omega)); rotate_right) | (apply Blk.below (hb := hb2); rotate_left; (focus ((try simp only [Sx.sizes]); omega)); rotate_right) | (apply Blk.below (hb := hb3); rotate_left; (focus ((try simp only [Sx.sizes]); omega)); rotate_right) | (apply Blk.below (hb := hb4); rotate_left; (focus ((try simp only [Sx.sizes]); omega)); rotate_right) | (apply Blk.below (hb := hb5); rotate_left; (focus ((try simp only [Sx.sizes]); omega)); rotate_right) | (apply Blk.below (hb := hb6); rotate_left; (focus ((try simp only [Sx.sizes]); omega)); rotate_right) | (apply Blk.below (hb := hb7); rotate_left; (focus ((try simp only [Sx.sizes]); omega)); rotate_right) | (apply Blk.below (hb := hb8); rotate_left; (focus ((try simp only [Sx.sizes]); omega)); rotate_right) | (apply Blk.below (hb := hb9); rotate_left; (focus ((try simp only [Sx.sizes]); omega)); rotate_right) | exact Blk.newE (by first | rfl | ((try simp only [Sx.sizes]); first | done | omega)) _ _ | exact Blk.put_same (by (try simp only [Sx.sizes]); first | done | omega) _ _ | (apply Blk.put_ne; (focus omega)) | apply Blk.alloc | apply Blk.drew)); done)⟩ ?_
      rintro G ⟨hG, k1⟩
      have bG := bF.trans (hG.mono sF)
      have sG := bG.size
      have k0G := k0F.below hG l0F
      have l0G := k0G.lt
      have l1 := k1.lt
      obtain ⟨b1, hb1⟩ : ∃ b, F.heap.size = b := ⟨_, rfl⟩
      have hw1 : w.heap.size ≤ b1 := hb1 ▸ sF
      rw [hb1] at k1 l1 ⊢
      have u0 := k0G
      unfold ocs at u0
      (refine Ga ?_)
      (apply Lst_call; (focus rfl); (focus rfl))
      refine (r_OCut o hok hs f t hf G).mono ?_
      rintro v H ⟨rfl, hH⟩
      have bH := bG.trans (hH.mono sG)
      have sH := bH.size
      have k0H := k0G.below hH l0G
      have l0H := k0H.lt
      have k1H := k1.below hH l1
      have l1H := k1H.lt
      rw [cutR_eq]
      obtain ⟨pb, hpb⟩ : ∃ p, cutP o f t o.v = p := ⟨_, rfl⟩
      rw [hpb]
      clear u0 k0 k0B k0C k0D k0E k0F k0G k1 bA bB bC bD bE bF bG
      unfold ocs
      (refine Ga ?_)
      refine W_abs (fun X => Below H.heap.size H X ∧ Blk X H.heap.size (ocs pb) 31) ⟨Bel, by unfold ocs; exact (by (repeat (first | assumption | (apply Blk.below (hb := hb1); rotate_left; (focus ((try simp only [Sx.sizes]); omega)); rotate_right) | (apply Blk.below (hb := hb2); rotate_left; (focus ((try simp only [Sx.sizes]); omega)); rotate_right) | (apply Blk.below (hb := hb3); rotate_left; (focus ((try simp only [Sx.sizes]); omega)); rotate_right) | (apply Blk.below (hb := hb4); rotate_left; (focus ((try simp only [Sx.sizes]); omega)); rotate_right) | (apply Blk.below (hb := hb5); rotate_left; (focus ((try simp only [Sx.sizes]); omega)); rotate_right) | (apply Blk.below (hb := hb6); rotate_left; (focus ((try simp only [Sx.sizes]); omega)); rotate_right) | (apply Blk.below (hb := hb7); rotate_left; (focus ((try simp only [Sx.sizes]); omega)); rotate_right) | (apply Blk.below (hb := hb8); rotate_left; (focus ((try simp only [Sx.sizes]); omega)); rotate_right) | (apply Blk.below (hb := hb9); rotate_left; (focus ((try simp only [Sx.sizes]); omega)); rotate_right) | exact Blk.newE (by first | rfl | ((try simp only [Sx.sizes]); first | done | omega)) _ _ | exact Blk.put_same (by (try simp only [Sx.sizes]); first | done | omega) _ _ | (apply Blk.put_ne; (focus omega)) | apply Blk.alloc | apply Blk.drew)); done)⟩ ?_
      rintro I ⟨hI, k2⟩
      have bI := bH.trans (hI.mono sH)
      have sI := bI.size
      have k0I := k0H.below hI l0H
      have l0I := k0I.lt
      have k1I := k1H.below hI l1H
      have l1I := k1I.lt
      have l2 := k2.lt
      obtain ⟨b2, hb2⟩ : ∃ b, H.heap.size = b := ⟨_, rfl⟩
      have hw2 : w.heap.size ≤ b2 := hb2 ▸ sH
      rw [hb2] at k2 l2 ⊢
      clear k0H k1H
      generalize hcd : decide (0 ≤ f ∧ f < t ∧ t ≤ (len o : Int)) = cd at *
      have u0 := k0I
      have u1 := k1I
      have u2 := k2
      unfold ocs at u0 u1 u2
      have hga : ∀ Z, Below I.heap.size I Z → Blk Z b1 (ocs pa) 31 := fun Z h => k1I.below h l1I
      have hgb : ∀ Z, Below I.heap.size I Z → Blk Z b2 (ocs pb) 31 := fun Z h => k2.below h l2
      have hgo : ∀ Z, Below I.heap.size I Z → Blk Z w.heap.size (ocs o) 31 := fun Z h => k0I.below h l0I
      have hgw : ∀ Z, Below I.heap.size I Z → Below w.heap.size w Z := fun Z h => bI.trans (h.mono sI)
      have hfa : pa.v.Fit := hpa ▸ cut_fit hfit _ (clean_fit hfit) f t
      have hfb : pb.v.Fit := hpb ▸ cut_fit hfit _ hfit f t
      have hsab : sameO pa pb = true := by rw [← hpa, ← hpb]; exact cut_same hok f t
      have hrb : o.id.2 + len o ≤ 18446744073709551615 := by have := len_le o hs; omega
      refine W_drawS 22 (fun Z => Below I.heap.size I Z) rfl rfl ?_
      have hS := Below.drew (Below.refl I.heap.size I)
      generalize I.drew = Z at *
      refine S_takeV 0 21 rfl (by kernel_rfl) (by repeat (first | exact retQ_p | apply seqQ_p | apply blkQ_p | apply rndQ_p | apply cutQ_p)) hS ?_
      (refine Qb ?_)
      refine S_takeV 1 20 rfl (by kernel_rfl) (by repeat (first | exact retQ_p | apply seqQ_p | apply blkQ_p | apply rndQ_p | apply cutQ_p)) hS ?_
      (refine Qb ?_)
      refine S_takeV 2 19 rfl (by kernel_rfl) (by repeat (first | exact retQ_p | apply seqQ_p | apply blkQ_p | apply rndQ_p | apply cutQ_p)) hS ?_
      (refine Qb ?_)
      refine S_takeV 3 18 rfl (by kernel_rfl) (by repeat (first | exact retQ_p | apply seqQ_p | apply blkQ_p | apply rndQ_p | apply cutQ_p)) hS ?_
      (refine Qb ?_)
      refine S_takeV 4 17 rfl (by kernel_rfl) (by repeat (first | exact retQ_p | apply seqQ_p | apply blkQ_p | apply rndQ_p | apply cutQ_p)) hS ?_
      apply Qst_guard_t
      focus rfl
      focus rfl
      apply Qst_loadS (cs := ocs pa)
      focus rfl
      focus rfl
      focus rfl
      focus rfl
      focus rfl
      focus exact fun A9 hA9 j v hj => by rw [Nat.zero_add]; exact (Blk.cell (hga A9 hA9) j).trans hj
      focus rfl
      (refine Qb ?_)
      refine S_takeV 5 16 rfl (by kernel_rfl) (by repeat (first | exact retQ_p | apply seqQ_p | apply blkQ_p | apply rndQ_p | apply cutQ_p)) hS ?_
      apply Qst_guard_t
      focus rfl
      focus rfl
      apply Qst_loadS (cs := ocs pb)
      focus rfl
      focus rfl
      focus rfl
      focus rfl
      focus rfl
      focus exact fun A9 hA9 j v hj => by rw [Nat.zero_add]; exact (Blk.cell (hgb A9 hA9) j).trans hj
      focus rfl
      (refine Qb ?_)
      refine S_any [6] 15 rfl (by kernel_rfl) (all1 ?_)
      apply Lst_guard_t
      focus rfl
      focus rfl
      (apply Lst_call; (focus rfl); (focus rfl))
      refine (o_Same pa pb hfa hfb Z).mono ?_
      rintro v V ⟨rfl, hV⟩
      rw [hsab]
      apply Lst_nil
      apply rnQ_n
      have hS2 := hS.trans (hV.mono hS.size)
      refine ⟨hS2, ?_⟩
      clear hS hV
      have hS := hS2
      refine S_takeV 7 14 rfl (by kernel_rfl) (by repeat (first | exact retQ_p | apply seqQ_p | apply blkQ_p | apply rndQ_p | apply cutQ_p)) hS ?_
      (refine Qb ?_)
      refine S_takeV 8 13 rfl (by kernel_rfl) (by repeat (first | exact retQ_p | apply seqQ_p | apply blkQ_p | apply rndQ_p | apply cutQ_p)) hS ?_
      (refine Qb ?_)
      refine S_takeV 9 12 rfl (by kernel_rfl) (by repeat (first | exact retQ_p | apply seqQ_p | apply blkQ_p | apply rndQ_p | apply cutQ_p)) hS ?_
      (refine Qb ?_)
      refine S_takeV 10 11 rfl (by kernel_rfl) (by repeat (first | exact retQ_p | apply seqQ_p | apply blkQ_p | apply rndQ_p | apply cutQ_p)) hS ?_
      apply Qst_guard_t
      focus rfl
      focus rfl
      apply Qst_loadS (cs := ocs o)
      focus rfl
      focus rfl
      focus rfl
      focus rfl
      focus rfl
      focus exact fun A9 hA9 j v hj => by rw [Nat.zero_add]; exact (Blk.cell (hgo A9 hA9) j).trans hj
      focus rfl
      (refine Qb ?_)
      refine S_takeV 12 10 rfl (by kernel_rfl) (by repeat (first | exact retQ_p | apply seqQ_p | apply blkQ_p | apply rndQ_p | apply cutQ_p)) hS ?_
      (refine Qb ?_)
      refine S_any [11] 9 rfl (by kernel_rfl) (all1 ?_)
      apply Lst_guard_t
      focus rfl
      focus rfl
      (apply Lst_call; (focus rfl); (focus rfl))
      refine (c_Len o hs _ (hT.below (hgw _ hS))).mono ?_
      rintro v V ⟨rfl, hV⟩
      apply Lst_nil
      apply rnQ_n
      have hS2 := hS.trans (hV.mono hS.size)
      refine ⟨hS2, ?_⟩
      clear hS hV
      have hS := hS2
      refine S_takeV 13 8 rfl (by kernel_rfl) (by repeat (first | exact retQ_p | apply seqQ_p | apply blkQ_p | apply rndQ_p | apply cutQ_p)) hS ?_
      (refine Qb ?_)
      refine S_takeV 14 7 rfl (by kernel_rfl) (by repeat (first | exact retQ_p | apply seqQ_p | apply blkQ_p | apply rndQ_p | apply cutQ_p)) hS ?_
      (refine Qb ?_)
      refine S_takeV 15 6 rfl (by kernel_rfl) (by repeat (first | exact retQ_p | apply seqQ_p | apply blkQ_p | apply rndQ_p | apply cutQ_p)) hS ?_
      (refine Qb ?_)
      refine S_takeV 16 5 rfl (by kernel_rfl) (by repeat (first | exact retQ_p | apply seqQ_p | apply blkQ_p | apply rndQ_p | apply cutQ_p)) hS ?_
      apply Qst_guard_t
      focus rfl
      focus rfl
      apply Qst_loadS (cs := ocs o)
      focus rfl
      focus rfl
      focus rfl
      focus rfl
      focus rfl
      focus exact fun A9 hA9 j v hj => by rw [Nat.zero_add]; exact (Blk.cell (hgo A9 hA9) j).trans hj
      focus rfl
      (refine Qb ?_)
      refine S_takeV 18 4 rfl (by kernel_rfl) (by repeat (first | exact retQ_p | apply seqQ_p | apply blkQ_p | apply rndQ_p | apply cutQ_p)) hS ?_
      apply Qst_guard_t
      focus rfl
      focus rfl
      apply Qst_loadS (cs := ocs o)
      focus rfl
      focus rfl
      focus rfl
      focus rfl
      focus rfl
      focus exact fun A9 hA9 j v hj => by rw [Nat.zero_add]; exact (Blk.cell (hgo A9 hA9) j).trans hj
      focus rfl
      (refine Qb ?_)
      refine S_any [17] 3 rfl (by kernel_rfl) (all1 ?_)
      apply Lst_guard_t
      focus rfl
      focus rfl
      (apply Lst_call; (focus rfl); (focus rfl))
      refine (c_Range o hs hrb _ (hT.below (hgw _ hS))).mono ?_
      rintro v V ⟨rfl, hV⟩
      apply Lst_nil
      apply rnQ_n
      have hS2 := hS.trans (hV.mono hS.size)
      refine ⟨hS2, ?_⟩
      clear hS hV
      have hS := hS2
      refine S_any [19] 2 rfl (by kernel_rfl) (all1 ?_)
      apply Lst_guard_t
      focus rfl
      focus rfl
      (apply Lst_call; (focus rfl); (focus rfl))
      refine (r_Range o hs hrb _).mono ?_
      rintro v V ⟨rfl, hV⟩
      apply Lst_nil
      apply rnQ_n
      have hS2 := hS.trans (hV.mono hS.size)
      refine ⟨hS2, ?_⟩
      clear hS hV
      have hS := hS2
      refine S_takeV 20 1 rfl (by kernel_rfl) (by repeat (first | exact retQ_p | apply seqQ_p | apply blkQ_p | apply rndQ_p | apply cutQ_p)) hS ?_
      unfold rcs
      (refine Qb ?_)
      refine S_takeV 21 0 rfl (by kernel_rfl) (by repeat (first | exact retQ_p | apply seqQ_p | apply blkQ_p | apply rndQ_p | apply cutQ_p)) hS ?_
      (refine Qb ?_)
      refine S_done (by kernel_rfl) ?_
      have bZ := hgw V hS
      have sZ := bZ.size
      have k0Z := hgo V hS
      have l0Z := k0Z.lt
      clear hga hgb hgo hgw u1 u2 u0 k1I k2 k0I hS
      have u0 := k0Z
      unfold ocs at u0
      have hlo := len_le o hs
      by_cases hn1 : (len o : Int) = 1
      · (refine Ga ?_)
        (apply retQ1; (focus rfl))
        exact ⟨rfl, bZ⟩
      · have hk : o.k = 1 := by
          rcases Decidable.em (o.k = 1) with h | h
          · exact h
          · exact absurd (by unfold len; rw [if_neg h]; rfl) hn1
        have hO := hok hk
        have hL := len_ok hO
        rw [hL] at hn1 hlo ⊢
        have hL1 := hO.n1
        obtain ⟨L, hLL⟩ : ∃ L, (rs (tl o.tx)).length = L := ⟨_, rfl⟩
        rw [hLL] at hn1 hlo hL1 hL ⊢
        have hj1 : arith .sub .i64 ((L : Nat) : Int) 1 = ((L : Int) - 1) := by
          show IntKind.i64.wrap ((L : Int) - 1) = _
          exact wi64 (by omega) (by omega)
        (refine Ga ?_)
        (apply Lst_call; (focus rfl); (focus rfl))
        refine (Wire.h_Place at' ((L : Int) - 1) V (by omega) (by omega)).mono ?_
        rintro v _ ⟨rfl, rfl⟩
        have hq0 := Int.emod_nonneg at' (show (L : Int) - 1 ≠ 0 by omega)
        have hq1 := Int.emod_lt_of_pos at' (show (0 : Int) < (L : Int) - 1 by omega)
        generalize at' % ((L : Int) - 1) = q at *
        obtain ⟨a, rfl⟩ : ∃ a : Nat, q = (a : Int) := ⟨q.toNat, by omega⟩
        have ha1 : arith .add .i64 1 (a : Int) = ((a + 1 : Nat) : Int) := by
          show IntKind.i64.wrap ((1 : Int) + (a : Int)) = _
          rw [show (1 : Int) + (a : Int) = ((a + 1 : Nat) : Int) by omega]
          exact wi64 (by omega) (by omega)
        have haL : a + 1 < L := by omega
        (refine Ga ?_)
        (apply Lst_call; (focus rfl); (focus rfl))
        refine (c_OCut o hok hs 0 ((a + 1 : Nat) : Int) (by omega) V (hT.below bZ)).mono ?_
        rintro v A ⟨rfl, hA⟩
        have e1 : cutR o 0 ((a + 1 : Nat) : Int) (cleanV o.v) = .tuple #[.agg (ocs (cutO o 0 (a + 1))).toArray, .bool true] := by
          unfold cutR
          rw [hL, if_pos ⟨by omega, by omega, by omega⟩, if_pos hk]
          rfl
        rw [e1]
        have h2ok := two_ok hO (at' := a + 1) (by omega) (by rw [hLL]; exact haL)
        have hfol := fol_cut hO (a := 0) (b := a + 1) (c := L) (by omega) haL (by rw [hLL]; exact Nat.le_refl _)
        have hxO := cut_ok hO (a := 0) (b := a + 1) (by omega) (by rw [hLL]; omega)
        have hyO := cut_ok hO (a := a + 1) (b := L) haL (by rw [hLL]; exact Nat.le_refl _)
        have hxl := cut_len hO (a := 0) (b := a + 1) (by rw [hLL]; omega)
        have hyl := cut_len hO (a := a + 1) (b := L) (by rw [hLL]; exact Nat.le_refl _)
        rw [hLL] at h2ok
        have bA := bZ.trans (hA.mono sZ)
        have sA := bA.size
        have k0A := k0Z.below hA l0Z
        have l0A := k0A.lt
        have hxid : (cutO o 0 (a + 1)).id = o.id := by unfold cutO; simp
        have hxid2 : (cutO o 0 (a + 1)).id.2 = o.id.2 := by rw [hxid]
        have hyid : (cutO o (a + 1) L).id.2 = o.id.2 + (a + 1) := rfl
        have hxs : (cutO o 0 (a + 1)).tx.size ≤ 1000000 := Nat.le_trans (Utf.cut_size o.tx _ _) hs
        have hys : (cutO o (a + 1) L).tx.size ≤ 1000000 := Nat.le_trans (Utf.cut_size o.tx _ _) hs
        have hxs2 : (cutO o 0 (a + 1)).tx.size ≤ 20000 := Nat.le_trans (Utf.cut_size o.tx _ _) hs2
        have hys2 : (cutO o (a + 1) L).tx.size ≤ 20000 := Nat.le_trans (Utf.cut_size o.tx _ _) hs2
        generalize cutO o 0 (a + 1) = x at *
        clear u0
        unfold ocs
        (refine Ga ?_)
        refine Lst_abs (fun X => Below A.heap.size A X ∧ Blk X A.heap.size (ocs x) 31) ⟨Bel, by unfold ocs; exact (by (repeat (first | assumption | (apply Blk.below (hb := hb1); rotate_left; (focus ((try simp only [Sx.sizes]); omega)); rotate_right) | (apply Blk.below (hb := hb2); rotate_left; (focus ((try simp only [Sx.sizes]); omega)); rotate_right) | (apply Blk.below (hb := hb3); rotate_left; (focus ((try simp only [Sx.sizes]); omega)); rotate_right) | (apply Blk.below (hb := hb4); rotate_left; (focus ((try simp only [Sx.sizes]); omega)); rotate_right) | (apply Blk.below (hb := hb5); rotate_left; (focus ((try simp only [Sx.sizes]); omega)); rotate_right) | (apply Blk.below (hb := hb6); rotate_left; (focus ((try simp only [Sx.sizes]); omega)); rotate_right) | (apply Blk.below (hb := hb7); rotate_left; (focus ((try simp only [Sx.sizes]); omega)); rotate_right) | (apply Blk.below (hb := hb8); rotate_left; (focus ((try simp only [Sx.sizes]); omega)); rotate_right) | (apply Blk.below (hb := hb9); rotate_left; (focus ((try simp only [Sx.sizes]); omega)); rotate_right) | exact Blk.newE (by first | rfl | ((try simp only [Sx.sizes]); first | done | omega)) _ _ | exact Blk.put_same (by (try simp only [Sx.sizes]); first | done | omega) _ _ | (apply Blk.put_ne; (focus omega)) | apply Blk.alloc | apply Blk.drew)); done)⟩ ?_
        rintro B ⟨hB, k1⟩
        have bB := bA.trans (hB.mono sA)
        have sB := bB.size
        have k0B := k0A.below hB l0A
        have l0B := k0B.lt
        have l1 := k1.lt
        obtain ⟨b3, hb3⟩ : ∃ b, A.heap.size = b := ⟨_, rfl⟩
        have hw3 : w.heap.size ≤ b3 := hb3 ▸ sA
        rw [hb3] at k1 l1 ⊢
        have u0 := k0B
        unfold ocs at u0
        (refine Ga ?_)
        (apply Lst_call; (focus rfl); (focus rfl))
        refine (c_OCut o hok hs ((a + 1 : Nat) : Int) (L : Int) (by omega) B (hT.below bB)).mono ?_
        rintro v C ⟨rfl, hC⟩
        have e2 : cutR o ((a + 1 : Nat) : Int) (L : Int) (cleanV o.v) = .tuple #[.agg (ocs (cutO o (a + 1) L)).toArray, .bool true] := by
          unfold cutR
          rw [hL, if_pos ⟨by omega, by omega, by omega⟩, if_pos hk]
          rfl
        rw [e2]
        have bC := bB.trans (hC.mono sB)
        have sC := bC.size
        have k0C := k0B.below hC l0B
        have l0C := k0C.lt
        have k1C := k1.below hC l1
        have l1C := k1C.lt
        generalize cutO o (a + 1) L = y at *
        clear u0 k0Z k0A k0B k1
        unfold ocs
        (refine Ga ?_)
        refine W_abs (fun X => Below C.heap.size C X ∧ Blk X C.heap.size (ocs y) 31) ⟨Bel, by unfold ocs; exact (by (repeat (first | assumption | (apply Blk.below (hb := hb1); rotate_left; (focus ((try simp only [Sx.sizes]); omega)); rotate_right) | (apply Blk.below (hb := hb2); rotate_left; (focus ((try simp only [Sx.sizes]); omega)); rotate_right) | (apply Blk.below (hb := hb3); rotate_left; (focus ((try simp only [Sx.sizes]); omega)); rotate_right) | (apply Blk.below (hb := hb4); rotate_left; (focus ((try simp only [Sx.sizes]); omega)); rotate_right) | (apply Blk.below (hb := hb5); rotate_left; (focus ((try simp only [Sx.sizes]); omega)); rotate_right) | (apply Blk.below (hb := hb6); rotate_left; (focus ((try simp only [Sx.sizes]); omega)); rotate_right) | (apply Blk.below (hb := hb7); rotate_left; (focus ((try simp only [Sx.sizes]); omega)); rotate_right) | (apply Blk.below (hb := hb8); rotate_left; (focus ((try simp only [Sx.sizes]); omega)); rotate_right) | (apply Blk.below (hb := hb9); rotate_left; (focus ((try simp only [Sx.sizes]); omega)); rotate_right) | exact Blk.newE (by first | rfl | ((try simp only [Sx.sizes]); first | done | omega)) _ _ | exact Blk.put_same (by (try simp only [Sx.sizes]); first | done | omega) _ _ | (apply Blk.put_ne; (focus omega)) | apply Blk.alloc | apply Blk.drew)); done)⟩ ?_
        rintro D ⟨hD, k2⟩
        have bD := bC.trans (hD.mono sC)
        have sD := bD.size
        have k0D := k0C.below hD l0C
        have l0D := k0D.lt
        have k1D := k1C.below hD l1C
        have l1D := k1D.lt
        have l2 := k2.lt
        obtain ⟨b4, hb4⟩ : ∃ b, C.heap.size = b := ⟨_, rfl⟩
        have hw4 : w.heap.size ≤ b4 := hb4 ▸ sC
        rw [hb4] at k2 l2 ⊢
        clear k0C k1C
        have hgx : ∀ Z, Below D.heap.size D Z → Blk Z b3 (ocs x) 31 := fun Z h => k1D.below h l1D
        have hgy : ∀ Z, Below D.heap.size D Z → Blk Z b4 (ocs y) 31 := fun Z h => k2.below h l2
        have hgo : ∀ Z, Below D.heap.size D Z → Blk Z w.heap.size (ocs o) 31 := fun Z h => k0D.below h l0D
        have hgw : ∀ Z, Below D.heap.size D Z → Below w.heap.size w Z := fun Z h => bD.trans (h.mono sD)
        have hlx : len x = a + 1 := by rw [len_ok hxO, hxl]; omega
        have hly : len y = L - (a + 1) := by rw [len_ok hyO, hyl]
        have hxc1 : 1 ≤ x.id.2 := by rw [hxid2]; exact hclk.2.1
        have hxc2 : x.id.2 + len x ≤ 9007199254740992 := by rw [hxid2, hlx]; have := hO.hi; omega
        have hL2 : L ≤ 4096 := by rw [← hLL]; exact hO.n2
        have hfit2 : (folO x y && decide (len x + len y ≤ 4096)) = true := by
          rw [hfol, hlx, hly, decide_eq_true (by omega)]
          rfl
        have hdis : Dis (fid [y, x]) [y, x].length := two_dis (fun e => by
          have := congrArg Prod.snd e
          rw [hyid, hxid] at this
          omega)
        have hclkx : ([x, y][0]'(by simp)).id.2 + (rs (tl o.tx)).length ≤ 9007199254740992 := by
          show x.id.2 + _ ≤ _
          rw [hxid2]
          exact hO.hi
        have hcat : (catS [x, y]).size ≤ 1000000 := by
          rw [cat_two]
          omega
        refine W_drawS 29 (fun Z => Below D.heap.size D Z) rfl rfl ?_
        have hS := Below.drew (Below.refl D.heap.size D)
        generalize D.drew = Z at *
        refine S_takeV 0 28 rfl (by kernel_rfl) (by repeat (first | exact retQ_p | apply seqQ_p | apply blkQ_p | apply rndQ_p | apply cutQ_p)) hS ?_
        (refine Qb ?_)
        refine S_takeV 1 27 rfl (by kernel_rfl) (by repeat (first | exact retQ_p | apply seqQ_p | apply blkQ_p | apply rndQ_p | apply cutQ_p)) hS ?_
        (refine Qb ?_)
        refine S_takeV 2 26 rfl (by kernel_rfl) (by repeat (first | exact retQ_p | apply seqQ_p | apply blkQ_p | apply rndQ_p | apply cutQ_p)) hS ?_
        (refine Qb ?_)
        refine S_takeV 3 25 rfl (by kernel_rfl) (by repeat (first | exact retQ_p | apply seqQ_p | apply blkQ_p | apply rndQ_p | apply cutQ_p)) hS ?_
        (refine Qb ?_)
        refine S_takeV 4 24 rfl (by kernel_rfl) (by repeat (first | exact retQ_p | apply seqQ_p | apply blkQ_p | apply rndQ_p | apply cutQ_p)) hS ?_
        (refine Qb ?_)
        refine S_takeV 5 23 rfl (by kernel_rfl) (by repeat (first | exact retQ_p | apply seqQ_p | apply blkQ_p | apply rndQ_p | apply cutQ_p)) hS ?_
        apply Qst_guard_t
        focus rfl
        focus rfl
        apply Qst_loadS (cs := ocs x)
        focus rfl
        focus rfl
        focus rfl
        focus rfl
        focus rfl
        focus exact fun A9 hA9 j v hj => by rw [Nat.zero_add]; exact (Blk.cell (hgx A9 hA9) j).trans hj
        focus rfl
        (refine Qb ?_)
        refine S_any [6] 22 rfl (by kernel_rfl) (all1 ?_)
        apply Lst_guard_t
        focus rfl
        focus rfl
        (apply Lst_call; (focus rfl); (focus rfl))
        refine (c_OCheck x hxO hxs Z (hT.below (hgw _ hS))).mono ?_
        rintro v Z1 ⟨rfl, hZ1⟩
        apply Lst_nil
        apply rnQ_n
        have hS2 := hS.trans (hZ1.mono hS.size)
        refine ⟨hS2, ?_⟩
        clear hS hZ1
        have hS := hS2
        refine S_takeV 7 21 rfl (by kernel_rfl) (by repeat (first | exact retQ_p | apply seqQ_p | apply blkQ_p | apply rndQ_p | apply cutQ_p)) hS ?_
        (refine Qb ?_)
        refine S_takeV 8 20 rfl (by kernel_rfl) (by repeat (first | exact retQ_p | apply seqQ_p | apply blkQ_p | apply rndQ_p | apply cutQ_p)) hS ?_
        (refine Qb ?_)
        refine S_takeV 9 19 rfl (by kernel_rfl) (by repeat (first | exact retQ_p | apply seqQ_p | apply blkQ_p | apply rndQ_p | apply cutQ_p)) hS ?_
        (refine Qb ?_)
        refine S_takeV 10 18 rfl (by kernel_rfl) (by repeat (first | exact retQ_p | apply seqQ_p | apply blkQ_p | apply rndQ_p | apply cutQ_p)) hS ?_
        apply Qst_guard_t
        focus rfl
        focus rfl
        apply Qst_loadS (cs := ocs y)
        focus rfl
        focus rfl
        focus rfl
        focus rfl
        focus rfl
        focus exact fun A9 hA9 j v hj => by rw [Nat.zero_add]; exact (Blk.cell (hgy A9 hA9) j).trans hj
        focus rfl
        (refine Qb ?_)
        refine S_any [11] 17 rfl (by kernel_rfl) (all1 ?_)
        apply Lst_guard_t
        focus rfl
        focus rfl
        (apply Lst_call; (focus rfl); (focus rfl))
        refine (c_OCheck y hyO hys Z1 (hT.below (hgw _ hS))).mono ?_
        rintro v Z2 ⟨rfl, hZ2⟩
        apply Lst_nil
        apply rnQ_n
        have hS2 := hS.trans (hZ2.mono hS.size)
        refine ⟨hS2, ?_⟩
        clear hS hZ2
        have hS := hS2
        refine S_takeV 12 16 rfl (by kernel_rfl) (by repeat (first | exact retQ_p | apply seqQ_p | apply blkQ_p | apply rndQ_p | apply cutQ_p)) hS ?_
        (refine Qb ?_)
        refine S_takeV 13 15 rfl (by kernel_rfl) (by repeat (first | exact retQ_p | apply seqQ_p | apply blkQ_p | apply rndQ_p | apply cutQ_p)) hS ?_
        (refine Qb ?_)
        refine S_takeV 14 14 rfl (by kernel_rfl) (by repeat (first | exact retQ_p | apply seqQ_p | apply blkQ_p | apply rndQ_p | apply cutQ_p)) hS ?_
        (refine Qb ?_)
        refine S_takeV 15 13 rfl (by kernel_rfl) (by repeat (first | exact retQ_p | apply seqQ_p | apply blkQ_p | apply rndQ_p | apply cutQ_p)) hS ?_
        apply Qst_guard_t
        focus rfl
        focus rfl
        apply Qst_loadS (cs := ocs x)
        focus rfl
        focus rfl
        focus rfl
        focus rfl
        focus rfl
        focus exact fun A9 hA9 j v hj => by rw [Nat.zero_add]; exact (Blk.cell (hgx A9 hA9) j).trans hj
        focus rfl
        (refine Qb ?_)
        refine S_takeV 16 12 rfl (by kernel_rfl) (by repeat (first | exact retQ_p | apply seqQ_p | apply blkQ_p | apply rndQ_p | apply cutQ_p)) hS ?_
        apply Qst_guard_t
        focus rfl
        focus rfl
        apply Qst_loadS (cs := ocs y)
        focus rfl
        focus rfl
        focus rfl
        focus rfl
        focus rfl
        focus exact fun A9 hA9 j v hj => by rw [Nat.zero_add]; exact (Blk.cell (hgy A9 hA9) j).trans hj
        focus rfl
        (refine Qb ?_)
        refine S_any [17] 11 rfl (by kernel_rfl) (all1 ?_)
        apply Lst_guard_t
        focus rfl
        focus rfl
        (apply Lst_call; (focus rfl); (focus rfl))
        refine (c_Fits x y hxs hys hxc1 hxc2 Z2 (hT.below (hgw _ hS))).mono ?_
        rintro v Z3 ⟨rfl, hZ3⟩
        rw [hfit2]
        apply Lst_nil
        apply rnQ_n
        have hS2 := hS.trans (hZ3.mono hS.size)
        refine ⟨hS2, ?_⟩
        clear hS hZ3
        have hS := hS2
        refine S_takeV 18 10 rfl (by kernel_rfl) (by repeat (first | exact retQ_p | apply seqQ_p | apply blkQ_p | apply rndQ_p | apply cutQ_p)) hS ?_
        (refine Qb ?_)
        refine S_takeV 19 9 rfl (by kernel_rfl) (by repeat (first | exact retQ_p | apply seqQ_p | apply blkQ_p | apply rndQ_p | apply cutQ_p)) hS ?_
        (refine Qb ?_)
        refine S_takeV 20 8 rfl (by kernel_rfl) (by repeat (first | exact retQ_p | apply seqQ_p | apply blkQ_p | apply rndQ_p | apply cutQ_p)) hS ?_
        apply Qst_guard_t
        focus rfl
        focus rfl
        apply Qst_loadS (cs := ocs y)
        focus rfl
        focus rfl
        focus rfl
        focus rfl
        focus rfl
        focus exact fun A9 hA9 j v hj => by rw [Nat.zero_add]; exact (Blk.cell (hgy A9 hA9) j).trans hj
        focus rfl
        (refine Qb ?_)
        refine S_takeV 21 7 rfl (by kernel_rfl) (by repeat (first | exact retQ_p | apply seqQ_p | apply blkQ_p | apply rndQ_p | apply cutQ_p)) hS ?_
        apply Qst_guard_t
        focus rfl
        focus rfl
        apply Qst_loadS (cs := ocs x)
        focus rfl
        focus rfl
        focus rfl
        focus rfl
        focus rfl
        focus exact fun A9 hA9 j v hj => by rw [Nat.zero_add]; exact (Blk.cell (hgx A9 hA9) j).trans hj
        focus rfl
        (refine Qb ?_)
        refine S_takeV 24 6 rfl (by kernel_rfl) (by repeat (first | exact retQ_p | apply seqQ_p | apply blkQ_p | apply rndQ_p | apply cutQ_p)) hS ?_
        apply Qst_guard_t
        focus rfl
        focus rfl
        apply Qst_loadS (cs := ocs o)
        focus rfl
        focus rfl
        focus rfl
        focus rfl
        focus rfl
        focus exact fun A9 hA9 j v hj => by rw [Nat.zero_add]; exact (Blk.cell (hgo A9 hA9) j).trans hj
        focus rfl
        (refine Qb ?_)
        refine S_any [22, 25] 5 rfl (by kernel_rfl) (all2 ?_ ?_)
        · apply Lst_guard_t
          focus rfl
          focus rfl
          (apply Lst_slit; (focus rfl); (focus rfl); (focus rfl); (focus rfl); (focus rfl); (focus rfl); (focus rfl); (focus rfl); (focus rfl); (focus (repeat (first | apply FillO.nil | (apply FillO.cons; (focus constructor); (focus rfl); (focus rfl); (focus (repeat constructor)))))); (focus ((try simp only [Sx.sizes]); first | done | rfl)); (focus rfl))
          refine Lst_abs (fun X => Below Z3.heap.size Z3 X ∧ Blk X Z3.heap.size (ocs y ++ ocs x) 31) ⟨Bel, (by (repeat (first | assumption | (apply Blk.below (hb := hb1); rotate_left; (focus ((try simp only [Sx.sizes]); omega)); rotate_right) | (apply Blk.below (hb := hb2); rotate_left; (focus ((try simp only [Sx.sizes]); omega)); rotate_right) | (apply Blk.below (hb := hb3); rotate_left; (focus ((try simp only [Sx.sizes]); omega)); rotate_right) | (apply Blk.below (hb := hb4); rotate_left; (focus ((try simp only [Sx.sizes]); omega)); rotate_right) | (apply Blk.below (hb := hb5); rotate_left; (focus ((try simp only [Sx.sizes]); omega)); rotate_right) | (apply Blk.below (hb := hb6); rotate_left; (focus ((try simp only [Sx.sizes]); omega)); rotate_right) | (apply Blk.below (hb := hb7); rotate_left; (focus ((try simp only [Sx.sizes]); omega)); rotate_right) | (apply Blk.below (hb := hb8); rotate_left; (focus ((try simp only [Sx.sizes]); omega)); rotate_right) | (apply Blk.below (hb := hb9); rotate_left; (focus ((try simp only [Sx.sizes]); omega)); rotate_right) | exact Blk.newE (by first | rfl | ((try simp only [Sx.sizes]); first | done | omega)) _ _ | exact Blk.put_same (by (try simp only [Sx.sizes]); first | done | omega) _ _ | (apply Blk.put_ne; (focus omega)) | apply Blk.alloc | apply Blk.drew)); done)⟩ ?_
          rintro Z4 ⟨hZ4, kL⟩
          apply Lst_nil
          apply rnQ_n
          have hS2 := hS.trans (hZ4.mono hS.size)
          refine ⟨hS2, ?_⟩
          clear hS
          have hS := hS2
          refine S_any [23, 25] 4 rfl (by kernel_rfl) (all2 ?_ ?_)
          · apply Lst_guard_t
            focus rfl
            focus rfl
            (apply Lst_call; (focus rfl); (focus rfl))
            refine (c_Join [y, x] [x, y] _ 2 (by simp) (by simp) rfl (fun o => by simp [or_comm]) hdis h2ok.1 (fun o ho => by simp at ho; rcases ho with rfl | rfl <;> assumption) hcat (by rw [h2ok.2.1]; exact hclkx) Z4 (hT.below (hgw _ hS)) (two_row kL)).mono ?_
            rintro v Z5 ⟨hov, hZ5⟩
            rw [h2ok.2.1, hLL] at hov
            change OwnO _ _ _ (chunks L x (rs (tl o.tx))) at hov
            rw [h2ok.2.2] at hov
            obtain ⟨va, vc, hv0, _⟩ := own_form hov
            have hv0 : v = .slice va 1 vc := hv0
            subst hv0
            apply Lst_nil
            apply rnQ_n
            have hS2 := hS.trans (hZ5.mono hS.size)
            refine ⟨hS2, ?_⟩
            clear hS
            have hS := hS2
            refine S_any [25] 3 rfl (by kernel_rfl) (all1 ?_)
            apply Lst_guard_t
            focus rfl
            focus rfl
            (apply Lst_slit; (focus rfl); (focus rfl); (focus rfl); (focus rfl); (focus rfl); (focus rfl); (focus rfl); (focus rfl); (focus rfl); (focus (repeat (first | apply FillO.nil | (apply FillO.cons; (focus constructor); (focus rfl); (focus rfl); (focus (repeat constructor)))))); (focus ((try simp only [Sx.sizes]); first | done | rfl)); (focus rfl))
            refine Lst_abs (fun X => Below Z5.heap.size Z5 X ∧ Blk X Z5.heap.size (ocs o) 31) ⟨Bel, (by (repeat (first | assumption | (apply Blk.below (hb := hb1); rotate_left; (focus ((try simp only [Sx.sizes]); omega)); rotate_right) | (apply Blk.below (hb := hb2); rotate_left; (focus ((try simp only [Sx.sizes]); omega)); rotate_right) | (apply Blk.below (hb := hb3); rotate_left; (focus ((try simp only [Sx.sizes]); omega)); rotate_right) | (apply Blk.below (hb := hb4); rotate_left; (focus ((try simp only [Sx.sizes]); omega)); rotate_right) | (apply Blk.below (hb := hb5); rotate_left; (focus ((try simp only [Sx.sizes]); omega)); rotate_right) | (apply Blk.below (hb := hb6); rotate_left; (focus ((try simp only [Sx.sizes]); omega)); rotate_right) | (apply Blk.below (hb := hb7); rotate_left; (focus ((try simp only [Sx.sizes]); omega)); rotate_right) | (apply Blk.below (hb := hb8); rotate_left; (focus ((try simp only [Sx.sizes]); omega)); rotate_right) | (apply Blk.below (hb := hb9); rotate_left; (focus ((try simp only [Sx.sizes]); omega)); rotate_right) | exact Blk.newE (by first | rfl | ((try simp only [Sx.sizes]); first | done | omega)) _ _ | exact Blk.put_same (by (try simp only [Sx.sizes]); first | done | omega) _ _ | (apply Blk.put_ne; (focus omega)) | apply Blk.alloc | apply Blk.drew)); done)⟩ ?_
            rintro Z6 ⟨hZ6, kO⟩
            apply Lst_nil
            apply rnQ_n
            have hS2 := hS.trans (hZ6.mono hS.size)
            refine ⟨hS2, ?_⟩
            clear hS
            have hS := hS2
            refine S_any [26] 2 rfl (by kernel_rfl) (all1 ?_)
            apply Lst_guard_t
            focus rfl
            focus rfl
            (apply Lst_call; (focus rfl); (focus rfl))
            refine (c_sameAll8 [o] _ _ _ _ (by simp) (fun p hp => by rw [List.mem_singleton.1 hp]; exact hO.v) Z6 ((show OwnO _ _ _ [o] from own_below hov hZ6 (Nat.le_refl _)).rows) (one_row kO)).mono ?_
            rintro v Y ⟨rfl, hY⟩
            apply Lst_nil
            apply rnQ_n
            have hS2 := hS.trans (hY.mono hS.size)
            refine ⟨hS2, ?_⟩
            clear hS
            have hS := hS2
            refine S_takeV 27 1 rfl (by kernel_rfl) (by repeat (first | exact retQ_p | apply seqQ_p | apply blkQ_p | apply rndQ_p | apply cutQ_p)) hS ?_
            (refine Qb ?_)
            refine S_takeV 28 0 rfl (by kernel_rfl) (by repeat (first | exact retQ_p | apply seqQ_p | apply blkQ_p | apply rndQ_p | apply cutQ_p)) hS ?_
            (refine Qb ?_)
            refine S_done (by kernel_rfl) ?_
            (refine Ga ?_)
            (apply retQ1; (focus rfl))
            exact ⟨rfl, hgw _ hS⟩
          · apply Lst_guard_t
            focus rfl
            focus rfl
            (apply Lst_slit; (focus rfl); (focus rfl); (focus rfl); (focus rfl); (focus rfl); (focus rfl); (focus rfl); (focus rfl); (focus rfl); (focus (repeat (first | apply FillO.nil | (apply FillO.cons; (focus constructor); (focus rfl); (focus rfl); (focus (repeat constructor)))))); (focus ((try simp only [Sx.sizes]); first | done | rfl)); (focus rfl))
            refine Lst_abs (fun X => Below Z4.heap.size Z4 X ∧ Blk X Z4.heap.size (ocs o) 31) ⟨Bel, (by (repeat (first | assumption | (apply Blk.below (hb := hb1); rotate_left; (focus ((try simp only [Sx.sizes]); omega)); rotate_right) | (apply Blk.below (hb := hb2); rotate_left; (focus ((try simp only [Sx.sizes]); omega)); rotate_right) | (apply Blk.below (hb := hb3); rotate_left; (focus ((try simp only [Sx.sizes]); omega)); rotate_right) | (apply Blk.below (hb := hb4); rotate_left; (focus ((try simp only [Sx.sizes]); omega)); rotate_right) | (apply Blk.below (hb := hb5); rotate_left; (focus ((try simp only [Sx.sizes]); omega)); rotate_right) | (apply Blk.below (hb := hb6); rotate_left; (focus ((try simp only [Sx.sizes]); omega)); rotate_right) | (apply Blk.below (hb := hb7); rotate_left; (focus ((try simp only [Sx.sizes]); omega)); rotate_right) | (apply Blk.below (hb := hb8); rotate_left; (focus ((try simp only [Sx.sizes]); omega)); rotate_right) | (apply Blk.below (hb := hb9); rotate_left; (focus ((try simp only [Sx.sizes]); omega)); rotate_right) | exact Blk.newE (by first | rfl | ((try simp only [Sx.sizes]); first | done | omega)) _ _ | exact Blk.put_same (by (try simp only [Sx.sizes]); first | done | omega) _ _ | (apply Blk.put_ne; (focus omega)) | apply Blk.alloc | apply Blk.drew)); done)⟩ ?_
            rintro Z5 ⟨hZ5, kO⟩
            apply Lst_nil
            apply rnQ_n
            have hS2 := hS.trans (hZ5.mono hS.size)
            refine ⟨hS2, ?_⟩
            clear hS
            have hS := hS2
            refine S_any [23] 3 rfl (by kernel_rfl) (all1 ?_)
            apply Lst_guard_t
            focus rfl
            focus rfl
            (apply Lst_call; (focus rfl); (focus rfl))
            refine (c_Join [y, x] [x, y] _ 2 (by simp) (by simp) rfl (fun o => by simp [or_comm]) hdis h2ok.1 (fun o ho => by simp at ho; rcases ho with rfl | rfl <;> assumption) hcat (by rw [h2ok.2.1]; exact hclkx) Z5 (hT.below (hgw _ hS)) (two_row (kL.below hZ5 kL.lt))).mono ?_
            rintro v Z6 ⟨hov, hZ6⟩
            rw [h2ok.2.1, hLL] at hov
            change OwnO _ _ _ (chunks L x (rs (tl o.tx))) at hov
            rw [h2ok.2.2] at hov
            obtain ⟨va, vc, hv0, _⟩ := own_form hov
            have hv0 : v = .slice va 1 vc := hv0
            subst hv0
            apply Lst_nil
            apply rnQ_n
            have hS2 := hS.trans (hZ6.mono hS.size)
            refine ⟨hS2, ?_⟩
            clear hS
            have hS := hS2
            refine S_any [26] 2 rfl (by kernel_rfl) (all1 ?_)
            apply Lst_guard_t
            focus rfl
            focus rfl
            (apply Lst_call; (focus rfl); (focus rfl))
            refine (c_sameAll8 [o] _ _ _ _ (by simp) (fun p hp => by rw [List.mem_singleton.1 hp]; exact hO.v) Z6 (hov.rows) (one_row (kO.below hZ6 kO.lt))).mono ?_
            rintro v Y ⟨rfl, hY⟩
            apply Lst_nil
            apply rnQ_n
            have hS2 := hS.trans (hY.mono hS.size)
            refine ⟨hS2, ?_⟩
            clear hS
            have hS := hS2
            refine S_takeV 27 1 rfl (by kernel_rfl) (by repeat (first | exact retQ_p | apply seqQ_p | apply blkQ_p | apply rndQ_p | apply cutQ_p)) hS ?_
            (refine Qb ?_)
            refine S_takeV 28 0 rfl (by kernel_rfl) (by repeat (first | exact retQ_p | apply seqQ_p | apply blkQ_p | apply rndQ_p | apply cutQ_p)) hS ?_
            (refine Qb ?_)
            refine S_done (by kernel_rfl) ?_
            (refine Ga ?_)
            (apply retQ1; (focus rfl))
            exact ⟨rfl, hgw _ hS⟩
        · apply Lst_guard_t
          focus rfl
          focus rfl
          (apply Lst_slit; (focus rfl); (focus rfl); (focus rfl); (focus rfl); (focus rfl); (focus rfl); (focus rfl); (focus rfl); (focus rfl); (focus (repeat (first | apply FillO.nil | (apply FillO.cons; (focus constructor); (focus rfl); (focus rfl); (focus (repeat constructor)))))); (focus ((try simp only [Sx.sizes]); first | done | rfl)); (focus rfl))
          refine Lst_abs (fun X => Below Z3.heap.size Z3 X ∧ Blk X Z3.heap.size (ocs o) 31) ⟨Bel, (by (repeat (first | assumption | (apply Blk.below (hb := hb1); rotate_left; (focus ((try simp only [Sx.sizes]); omega)); rotate_right) | (apply Blk.below (hb := hb2); rotate_left; (focus ((try simp only [Sx.sizes]); omega)); rotate_right) | (apply Blk.below (hb := hb3); rotate_left; (focus ((try simp only [Sx.sizes]); omega)); rotate_right) | (apply Blk.below (hb := hb4); rotate_left; (focus ((try simp only [Sx.sizes]); omega)); rotate_right) | (apply Blk.below (hb := hb5); rotate_left; (focus ((try simp only [Sx.sizes]); omega)); rotate_right) | (apply Blk.below (hb := hb6); rotate_left; (focus ((try simp only [Sx.sizes]); omega)); rotate_right) | (apply Blk.below (hb := hb7); rotate_left; (focus ((try simp only [Sx.sizes]); omega)); rotate_right) | (apply Blk.below (hb := hb8); rotate_left; (focus ((try simp only [Sx.sizes]); omega)); rotate_right) | (apply Blk.below (hb := hb9); rotate_left; (focus ((try simp only [Sx.sizes]); omega)); rotate_right) | exact Blk.newE (by first | rfl | ((try simp only [Sx.sizes]); first | done | omega)) _ _ | exact Blk.put_same (by (try simp only [Sx.sizes]); first | done | omega) _ _ | (apply Blk.put_ne; (focus omega)) | apply Blk.alloc | apply Blk.drew)); done)⟩ ?_
          rintro Z4 ⟨hZ4, kO⟩
          apply Lst_nil
          apply rnQ_n
          have hS2 := hS.trans (hZ4.mono hS.size)
          refine ⟨hS2, ?_⟩
          clear hS
          have hS := hS2
          refine S_any [22] 4 rfl (by kernel_rfl) (all1 ?_)
          apply Lst_guard_t
          focus rfl
          focus rfl
          (apply Lst_slit; (focus rfl); (focus rfl); (focus rfl); (focus rfl); (focus rfl); (focus rfl); (focus rfl); (focus rfl); (focus rfl); (focus (repeat (first | apply FillO.nil | (apply FillO.cons; (focus constructor); (focus rfl); (focus rfl); (focus (repeat constructor)))))); (focus ((try simp only [Sx.sizes]); first | done | rfl)); (focus rfl))
          refine Lst_abs (fun X => Below Z4.heap.size Z4 X ∧ Blk X Z4.heap.size (ocs y ++ ocs x) 31) ⟨Bel, (by (repeat (first | assumption | (apply Blk.below (hb := hb1); rotate_left; (focus ((try simp only [Sx.sizes]); omega)); rotate_right) | (apply Blk.below (hb := hb2); rotate_left; (focus ((try simp only [Sx.sizes]); omega)); rotate_right) | (apply Blk.below (hb := hb3); rotate_left; (focus ((try simp only [Sx.sizes]); omega)); rotate_right) | (apply Blk.below (hb := hb4); rotate_left; (focus ((try simp only [Sx.sizes]); omega)); rotate_right) | (apply Blk.below (hb := hb5); rotate_left; (focus ((try simp only [Sx.sizes]); omega)); rotate_right) | (apply Blk.below (hb := hb6); rotate_left; (focus ((try simp only [Sx.sizes]); omega)); rotate_right) | (apply Blk.below (hb := hb7); rotate_left; (focus ((try simp only [Sx.sizes]); omega)); rotate_right) | (apply Blk.below (hb := hb8); rotate_left; (focus ((try simp only [Sx.sizes]); omega)); rotate_right) | (apply Blk.below (hb := hb9); rotate_left; (focus ((try simp only [Sx.sizes]); omega)); rotate_right) | exact Blk.newE (by first | rfl | ((try simp only [Sx.sizes]); first | done | omega)) _ _ | exact Blk.put_same (by (try simp only [Sx.sizes]); first | done | omega) _ _ | (apply Blk.put_ne; (focus omega)) | apply Blk.alloc | apply Blk.drew)); done)⟩ ?_
          rintro Z5 ⟨hZ5, kL⟩
          apply Lst_nil
          apply rnQ_n
          have hS2 := hS.trans (hZ5.mono hS.size)
          refine ⟨hS2, ?_⟩
          clear hS
          have hS := hS2
          refine S_any [23] 3 rfl (by kernel_rfl) (all1 ?_)
          apply Lst_guard_t
          focus rfl
          focus rfl
          (apply Lst_call; (focus rfl); (focus rfl))
          refine (c_Join [y, x] [x, y] _ 2 (by simp) (by simp) rfl (fun o => by simp [or_comm]) hdis h2ok.1 (fun o ho => by simp at ho; rcases ho with rfl | rfl <;> assumption) hcat (by rw [h2ok.2.1]; exact hclkx) Z5 (hT.below (hgw _ hS)) (two_row kL)).mono ?_
          rintro v Z6 ⟨hov, hZ6⟩
          rw [h2ok.2.1, hLL] at hov
          change OwnO _ _ _ (chunks L x (rs (tl o.tx))) at hov
          rw [h2ok.2.2] at hov
          obtain ⟨va, vc, hv0, _⟩ := own_form hov
          have hv0 : v = .slice va 1 vc := hv0
          subst hv0
          apply Lst_nil
          apply rnQ_n
          have hS2 := hS.trans (hZ6.mono hS.size)
          refine ⟨hS2, ?_⟩
          clear hS
          have hS := hS2
          refine S_any [26] 2 rfl (by kernel_rfl) (all1 ?_)
          apply Lst_guard_t
          focus rfl
          focus rfl
          (apply Lst_call; (focus rfl); (focus rfl))
          refine (c_sameAll8 [o] _ _ _ _ (by simp) (fun p hp => by rw [List.mem_singleton.1 hp]; exact hO.v) Z6 (hov.rows) (one_row ((kO.below hZ5 kO.lt).below hZ6 (Nat.lt_of_lt_of_le kO.lt hZ5.size)))).mono ?_
          rintro v Y ⟨rfl, hY⟩
          apply Lst_nil
          apply rnQ_n
          have hS2 := hS.trans (hY.mono hS.size)
          refine ⟨hS2, ?_⟩
          clear hS
          have hS := hS2
          refine S_takeV 27 1 rfl (by kernel_rfl) (by repeat (first | exact retQ_p | apply seqQ_p | apply blkQ_p | apply rndQ_p | apply cutQ_p)) hS ?_
          (refine Qb ?_)
          refine S_takeV 28 0 rfl (by kernel_rfl) (by repeat (first | exact retQ_p | apply seqQ_p | apply blkQ_p | apply rndQ_p | apply cutQ_p)) hS ?_
          (refine Qb ?_)
          refine S_done (by kernel_rfl) ?_
          (refine Ga ?_)
          (apply retQ1; (focus rfl))
          exact ⟨rfl, hgw _ hS⟩
    · (refine Ga ?_)
      (apply retQ1; (focus rfl))
      exact ⟨rfl, bD⟩
end
end Op
end Go.Proofs.YtifkedhbelflkaaGreatDoor
