/- The reference's Join of texts that go on, one behind the other. -/
import Derived.Test.YtifkedhbelflkaaGreatDoorOrOpM
namespace Go.Proofs.YtifkedhbelflkaaGreatDoor
set_option maxRecDepth 100000
namespace Op
open Go Go.RowKit Sx Tl Val
open Utf (rs tl Tabs cutS)
def catB (ts : List ByteArray) : ByteArray := ts.foldl (· ++ ·) ⟨#[]⟩
theorem cat_take_succ (ts : List ByteArray) (i : Nat) (h : i < ts.length) : catB (ts.take (i + 1)) = catB (ts.take i) ++ ts[i] := by
  unfold catB
  rw [List.take_succ_eq_append_getElem h, List.foldl_append]
  rfl
theorem tl_app (a b : ByteArray) : tl (a ++ b) = tl a ++ tl b := by
  show (a ++ b).data.toList = _
  rw [ByteArray.data_append, Array.toList_append]
theorem cat_fold : ∀ (ts : List ByteArray) (acc : ByteArray), Lib.validD (tl acc) = true → (∀ t ∈ ts, Lib.validD (tl t) = true) → Lib.validD (tl (ts.foldl (· ++ ·) acc)) = true ∧ rs (tl (ts.foldl (· ++ ·) acc)) = rs (tl acc) ++ runesT ts
  | [], acc, h, _ => ⟨h, by show _ = _ ++ []; rw [List.append_nil]; rfl⟩
  | t :: ts, acc, h, ht => by
    obtain ⟨h1, h2⟩ := Utf.rs_append h (ht t List.mem_cons_self)
    have e := tl_app acc t
    obtain ⟨h3, h4⟩ := cat_fold ts (acc ++ t) (by rw [e]; exact h1) fun x hx => ht x (List.mem_cons_of_mem _ hx)
    exact ⟨h3, h4.trans (by rw [e, h2, List.append_assoc]; rfl)⟩
theorem catB_rs {ts : List ByteArray} (ht : ∀ t ∈ ts, Tx t) : Lib.validD (tl (catB ts)) = true ∧ rs (tl (catB ts)) = runesT ts := cat_fold ts ⟨#[]⟩ rfl fun t h => (ht t h).val
/-- The piece that is cut out of a long row. -/
theorem cutR_seg {p : Nat} {T : ByteArray} : ∀ k (h : k < (cuts (rs (tl T)).length (rs (tl T))).length), cutR (pc p T) ((4096 * k : Nat) : Int) ((min (4096 * k + 4096) (rs (tl T)).length : Nat) : Int) ⟨0, 0, 0, ⟨#[]⟩⟩ = .tuple #[.agg (ocs (pc (p + 4096 * k) (cuts (rs (tl T)).length (rs (tl T)))[k])).toArray, .bool true] := fun k h => by
  have hl := cuts_len (rs (tl T)).length (rs (tl T)) (Nat.le_refl _)
  have hg := cuts_get (rs (tl T)).length (rs (tl T)) k h
  have hln : len (pc p T) = (rs (tl T)).length := by unfold len; rw [if_pos (show (pc p T).k = 1 from rfl)]; rfl
  rw [hg]
  generalize hR : (rs (tl T)).length = N at *
  have hk : 4096 * k < N := by omega
  unfold cutR
  rw [if_pos ⟨by omega, by omega, by rw [hln]; omega⟩, if_pos (show (pc p T).k = 1 from rfl), Int.toNat_natCast, Int.toNat_natCast]
  congr 5
  unfold cutO pc tc
  have hcs : cutS T ((4096 * k : Nat) : Int) ((min (4096 * k + 4096) N : Nat) : Int) = runesBytes (((rs (tl T)).drop (4096 * k)).take 4096) := by
    have h1 := (Utf.rs_cut T ((4096 * k : Nat) : Int) ((min (4096 * k + 4096) N : Nat) : Int)).1
    rw [← text_eq h1, rs_cutN]
    congr 1
    rw [List.drop_take]
    rcases Nat.le_total (4096 * k + 4096) N with hle | hle
    · rw [Nat.min_eq_left hle, Nat.add_sub_cancel_left]
    · rw [Nat.min_eq_right hle, List.take_of_length_le (by rw [List.length_drop]; omega), List.take_of_length_le (by rw [List.length_drop]; omega)]
  rw [hcs]
  by_cases h0 : 4096 * k = 0
  · rw [if_pos h0, h0]
    rfl
  · rw [if_neg h0, if_neg (show ¬ p + 4096 * k = 0 by omega), show 1 + (p + 4096 * k) = 1 + p + 4096 * k by omega, show 1 + p + 4096 * k - 1 = p + 4096 * k by omega]
theorem id_cells {w : World} {g b : Nat} {o : Mo} (h : ∀ j v, (ocs o)[j]? = some v → w.cell? ⟨g, b + j, none⟩ = some v) : ∀ j v, (idcs o.id)[j]? = some v → w.cell? ⟨g, b + j, none⟩ = some v := fun j v hj => by
  match j, hj with
  | 0, hj => exact h 0 v hj
  | 1, hj => exact h 1 v hj
section
attribute [local irreducible] RnS
attribute [local irreducible] W Lst Qst Pu seqQ blkQ rndQ cutQ retQ Does Enters IntKind.wrap bits sb World.alloc World.putObj Blk
theorem r_Less6 (a b : Id) (w : World) : Does Tryz.prog 56 #[idv a, idv b] w fun v w' => v = .bool (lt a b) ∧ Below w.heap.size w w' :=
  (Ids.c_RLess a.1 a.2 b.1 b.2 w).mono fun v w' h => ⟨h.1.trans (congrArg Value.bool (by
    rw [Bool.eq_iff_iff, lt_iff]
    simp
    omega)), h.2⟩
set_option maxHeartbeats 4000000 in
theorem r_Fits (a b : Mo) (hs : a.tx.size ≤ 1000000) (h0 : 1 ≤ a.id.2) (hi : a.id.2 + len a ≤ 9007199254740992) (h : folO a b = true) (w : World) : Does Tryz.prog 57 #[.agg (ocs a).toArray, .agg (ocs b).toArray] w fun v w' => v = .bool true ∧ Below w.heap.size w w' := by
  refine Does_of (args := [.agg (ocs a).toArray, .agg (ocs b).toArray]) Tryz.func57 (by kernel_rfl) rfl rfl rfl rfl rfl ?_
  have hcast : ((a.id.2 + len a - 1 : Nat) : Int) = ((a.id.2 + len a : Nat) : Int) - 1 := by omega
  have hl := len_le a hs
  unfold folO at h
  simp only [Bool.and_eq_true, decide_eq_true_eq] at h
  obtain ⟨h1, h2, h3, h4, h5, h6⟩ := h
  have h3' : (a.id.1 : Int) = b.id.1 := by rw [h3]
  have h4' : (b.id.2 : Int) = a.id.2 + len a := by rw [h4]; omega
  unfold ocs
  (refine Ga ?_)
  apply Lst_pu
  · apply P_neA
    focus rfl
    focus rfl
    focus kernel_rfl
    focus exact (by have := id_eq a.r b.r; rw [decide_eq_true h6] at this; exact this)
    focus rfl
  focus rfl
  (refine Ga ?_)
  refine W_abs (fun A => Below w.heap.size w A ∧ Blk A w.heap.size (ocs a) 31 ∧ Blk A (w.heap.size + 1) (ocs b) 31) ⟨Bel, by unfold ocs; exact (by (repeat (first | assumption | (apply Blk.below (hb := hb1); rotate_left; (focus ((try simp only [Sx.sizes]); omega)); rotate_right) | (apply Blk.below (hb := hb2); rotate_left; (focus ((try simp only [Sx.sizes]); omega)); rotate_right) | (apply Blk.below (hb := hb3); rotate_left; (focus ((try simp only [Sx.sizes]); omega)); rotate_right) | (apply Blk.below (hb := hb4); rotate_left; (focus ((try simp only [Sx.sizes]); omega)); rotate_right) | (apply Blk.below (hb := hb5); rotate_left; (focus ((try simp only [Sx.sizes]); omega)); rotate_right) | (apply Blk.below (hb := hb6); rotate_left; (focus ((try simp only [Sx.sizes]); omega)); rotate_right) | (apply Blk.below (hb := hb7); rotate_left; (focus ((try simp only [Sx.sizes]); omega)); rotate_right) | (apply Blk.below (hb := hb8); rotate_left; (focus ((try simp only [Sx.sizes]); omega)); rotate_right) | (apply Blk.below (hb := hb9); rotate_left; (focus ((try simp only [Sx.sizes]); omega)); rotate_right) | exact Blk.newE (by first | rfl | ((try simp only [Sx.sizes]); first | done | omega)) _ _ | exact Blk.put_same (by (try simp only [Sx.sizes]); first | done | omega) _ _ | (apply Blk.put_ne; (focus omega)) | apply Blk.alloc | apply Blk.drew)); done), by unfold ocs; exact (by (repeat (first | assumption | (apply Blk.below (hb := hb1); rotate_left; (focus ((try simp only [Sx.sizes]); omega)); rotate_right) | (apply Blk.below (hb := hb2); rotate_left; (focus ((try simp only [Sx.sizes]); omega)); rotate_right) | (apply Blk.below (hb := hb3); rotate_left; (focus ((try simp only [Sx.sizes]); omega)); rotate_right) | (apply Blk.below (hb := hb4); rotate_left; (focus ((try simp only [Sx.sizes]); omega)); rotate_right) | (apply Blk.below (hb := hb5); rotate_left; (focus ((try simp only [Sx.sizes]); omega)); rotate_right) | (apply Blk.below (hb := hb6); rotate_left; (focus ((try simp only [Sx.sizes]); omega)); rotate_right) | (apply Blk.below (hb := hb7); rotate_left; (focus ((try simp only [Sx.sizes]); omega)); rotate_right) | (apply Blk.below (hb := hb8); rotate_left; (focus ((try simp only [Sx.sizes]); omega)); rotate_right) | (apply Blk.below (hb := hb9); rotate_left; (focus ((try simp only [Sx.sizes]); omega)); rotate_right) | exact Blk.newE (by first | rfl | ((try simp only [Sx.sizes]); first | done | omega)) _ _ | exact Blk.put_same (by (try simp only [Sx.sizes]); first | done | omega) _ _ | (apply Blk.put_ne; (focus omega)) | apply Blk.alloc | apply Blk.drew)); done)⟩ ?_
  rintro A ⟨bA, k0, k1⟩
  have sA := bA.size
  have l0 := k0.lt
  have l1 := k1.lt
  obtain ⟨b1, hb1⟩ : ∃ b, w.heap.size + 1 = b := ⟨_, rfl⟩
  obtain ⟨b0, hb0⟩ : ∃ b, w.heap.size = b := ⟨_, rfl⟩
  rw [hb1] at k1 l1 ⊢
  rw [hb0] at k0 l0 ⊢
  refine W_drawS 8 (fun Z => Blk Z b0 (ocs a) 31) rfl rfl ?_
  unfold ocs
  have hS := Blk.drew k0
  have bZ := Below.drew (Below.refl A.heap.size A)
  have k1Z := Blk.drew k1
  generalize A.drew = Z at *
  refine S_takeV 0 7 rfl (by kernel_rfl) (by repeat (first | exact retQ_p | apply seqQ_p | apply blkQ_p | apply rndQ_p | apply cutQ_p)) hS ?_
  (refine Qb ?_)
  refine S_takeV 1 6 rfl (by kernel_rfl) (by repeat (first | exact retQ_p | apply seqQ_p | apply blkQ_p | apply rndQ_p | apply cutQ_p)) hS ?_
  (refine Qb ?_)
  refine S_takeV 2 5 rfl (by kernel_rfl) (by repeat (first | exact retQ_p | apply seqQ_p | apply blkQ_p | apply rndQ_p | apply cutQ_p)) hS ?_
  (refine Qb ?_)
  refine S_takeV 3 4 rfl (by kernel_rfl) (by repeat (first | exact retQ_p | apply seqQ_p | apply blkQ_p | apply rndQ_p | apply cutQ_p)) hS ?_
  (refine Qb ?_)
  refine S_any [4] 3 rfl (by kernel_rfl) (all1 ?_)
  (apply Lst_call; (focus rfl); (focus rfl))
  refine (o_Len a hs Z).mono ?_
  rintro v V ⟨rfl, hV⟩
  apply Lst_nil
  apply rnQ_n
  have bV := bA.trans ((bZ.trans (hV.mono bZ.size)).mono bA.size)
  have hS2 := hS.below hV hS.lt
  have k1V := k1Z.below hV k1Z.lt
  have l1V := k1V.lt
  refine ⟨hS2, ?_⟩
  clear hS
  have hS := hS2
  refine S_takeV 5 2 rfl (by kernel_rfl) (by repeat (first | exact retQ_p | apply seqQ_p | apply blkQ_p | apply rndQ_p | apply cutQ_p)) hS ?_
  (refine Qb ?_)
  refine S_takeV 6 1 rfl (by kernel_rfl) (by repeat (first | exact retQ_p | apply seqQ_p | apply blkQ_p | apply rndQ_p | apply cutQ_p)) hS ?_
  (refine Qb ?_)
  refine S_takeV 7 0 rfl (by kernel_rfl) (by repeat (first | exact retQ_p | apply seqQ_p | apply blkQ_p | apply rndQ_p | apply cutQ_p)) hS ?_
  (refine Qb ?_)
  refine S_done (by kernel_rfl) ?_
  unfold ocs at hS k1V
  (refine Ga ?_)
  apply Lst_pu
  · apply P_eqA
    focus rfl
    focus rfl
    focus kernel_rfl
    focus exact (by have := id_eq b.l (a.id.1, a.id.2 + len a - 1); rw [decide_eq_true h5] at this; unfold idv idcs at this; dsimp only at this; rw [hcast] at this; exact this)
    focus rfl
  focus rfl
  (refine Ga ?_)
  (apply retQ1; (focus rfl))
  exact ⟨rfl, by rw [hb0] at bV; exact bV⟩
set_option maxHeartbeats 4000000 in
theorem r_OCutL (o : Mo) (ht : o.k = 1 → rightId o.id = true) (hs : o.tx.size ≤ 1000000) (f t : Int) (_ : -9223372036854775808 ≤ f ∧ f < 9223372036854775808) (w : World) : Does Tryz.prog 10 #[.agg (ocs o).toArray, .int .i64 f, .int .i64 t] w fun v w' => v = cutR o f t o.v ∧ Below w.heap.size w w' := by
  refine Does_of (args := [.agg (ocs o).toArray, .int .i64 f, .int .i64 t]) Tryz.func10 (by kernel_rfl) rfl rfl rfl rfl rfl ?_
  have hl := len_le o hs
  unfold ocs
  (refine Ga ?_)
  refine Lst_abs (fun A => Below w.heap.size w A ∧ Blk A w.heap.size (ocs o) 31 ∧ Blk A (w.heap.size + 1) (ocs oz) 31) ⟨Bel, by unfold ocs; exact (by (repeat (first | assumption | (apply Blk.below (hb := hb1); rotate_left; (focus ((try simp only [Sx.sizes]); omega)); rotate_right) | (apply Blk.below (hb := hb2); rotate_left; (focus ((try simp only [Sx.sizes]); omega)); rotate_right) | (apply Blk.below (hb := hb3); rotate_left; (focus ((try simp only [Sx.sizes]); omega)); rotate_right) | (apply Blk.below (hb := hb4); rotate_left; (focus ((try simp only [Sx.sizes]); omega)); rotate_right) | (apply Blk.below (hb := hb5); rotate_left; (focus ((try simp only [Sx.sizes]); omega)); rotate_right) | (apply Blk.below (hb := hb6); rotate_left; (focus ((try simp only [Sx.sizes]); omega)); rotate_right) | (apply Blk.below (hb := hb7); rotate_left; (focus ((try simp only [Sx.sizes]); omega)); rotate_right) | (apply Blk.below (hb := hb8); rotate_left; (focus ((try simp only [Sx.sizes]); omega)); rotate_right) | (apply Blk.below (hb := hb9); rotate_left; (focus ((try simp only [Sx.sizes]); omega)); rotate_right) | exact Blk.newE (by first | rfl | ((try simp only [Sx.sizes]); first | done | omega)) _ _ | exact Blk.put_same (by (try simp only [Sx.sizes]); first | done | omega) _ _ | (apply Blk.put_ne; (focus omega)) | apply Blk.alloc | apply Blk.drew)); done), by unfold ocs oz; exact (by (repeat (first | assumption | (apply Blk.below (hb := hb1); rotate_left; (focus ((try simp only [Sx.sizes]); omega)); rotate_right) | (apply Blk.below (hb := hb2); rotate_left; (focus ((try simp only [Sx.sizes]); omega)); rotate_right) | (apply Blk.below (hb := hb3); rotate_left; (focus ((try simp only [Sx.sizes]); omega)); rotate_right) | (apply Blk.below (hb := hb4); rotate_left; (focus ((try simp only [Sx.sizes]); omega)); rotate_right) | (apply Blk.below (hb := hb5); rotate_left; (focus ((try simp only [Sx.sizes]); omega)); rotate_right) | (apply Blk.below (hb := hb6); rotate_left; (focus ((try simp only [Sx.sizes]); omega)); rotate_right) | (apply Blk.below (hb := hb7); rotate_left; (focus ((try simp only [Sx.sizes]); omega)); rotate_right) | (apply Blk.below (hb := hb8); rotate_left; (focus ((try simp only [Sx.sizes]); omega)); rotate_right) | (apply Blk.below (hb := hb9); rotate_left; (focus ((try simp only [Sx.sizes]); omega)); rotate_right) | exact Blk.newE (by first | rfl | ((try simp only [Sx.sizes]); first | done | omega)) _ _ | exact Blk.put_same (by (try simp only [Sx.sizes]); first | done | omega) _ _ | (apply Blk.put_ne; (focus omega)) | apply Blk.alloc | apply Blk.drew)); done)⟩ ?_
  rintro A ⟨bA, k0, k6⟩
  have sA := bA.size
  have l6 := k6.lt
  have hne : w.heap.size ≠ w.heap.size + 1 := by omega
  obtain ⟨b6, hb6⟩ : ∃ b, w.heap.size + 1 = b := ⟨_, rfl⟩
  rw [hb6] at k6 l6 hne ⊢
  have k0u := k0
  unfold ocs at k0u
  (apply Lst_call; (focus rfl); (focus rfl))
  refine (o_Len o hs A).mono ?_
  rintro v B ⟨rfl, hB⟩
  have bB := bA.trans (hB.mono sA)
  have k0B := k0.below hB k0.lt
  have k6B := k6.below hB l6
  have sB := Nat.le_trans sA hB.size
  have l0B := k0B.lt
  have l6B := k6B.lt
  clear k0u k0 k6 hB
  unfold ocs oz at k6B
  unfold ocs at k0B
  by_cases h1 : f < 0
  · (refine Ga ?_)
    (refine Retat ?_)
    exact ⟨by unfold cutR; rw [if_neg (by omega)]; rfl, Bel⟩
  by_cases h2 : f < t
  · by_cases h3 : t ≤ (len o : Int)
    · by_cases hk : o.k = 1
      · have hok := ht hk
        have hclk := right_hi (ht hk)
        obtain ⟨fn, rfl⟩ : ∃ n : Nat, f = (n : Int) := ⟨f.toNat, by omega⟩
        obtain ⟨tn, rfl⟩ : ∃ n : Nat, t = (n : Int) := ⟨t.toNat, by omega⟩
        by_cases h0 : fn = 0
        · (refine Ga ?_)
          (apply Lst_call; (focus rfl); (focus rfl))
          refine (Utf.r_Cut o.tx fn tn _ hs).mono ?_
          rintro v E ⟨rfl, hE⟩
          have bE := bB.trans (hE.mono sB)
          have k0E := k0B.below hE l0B
          have k6E := k6B.below hE l6B
          have l0E := k0E.lt
          have l6E := k6E.lt
          clear k0B k6B
          (refine Ga ?_)
          (refine Retat ?_)
          exact ⟨by unfold cutR; rw [if_pos ⟨by omega, h2, h3⟩, if_pos hk]; unfold cutO ocs; dsimp only [Int.toNat_natCast]; rw [if_pos h0, h0]; rfl, Bel⟩
        · have hpos : (fn : Int) > 0 := by omega
          have hcast : ((o.id.2 + fn - 1 : Nat) : Int) = (o.id.2 : Int) + (fn : Int) - 1 := by omega
          (refine Ga ?_)
          refine Lst_abs (fun D => Below w.heap.size w D ∧ Blk D w.heap.size (ocs { cutO o fn tn with tx := o.tx }) 31 ∧ Blk D b6 (ocs oz) 31) ⟨Bel, ?_, by unfold ocs oz; exact (by (repeat (first | assumption | (apply Blk.below (hb := hb1); rotate_left; (focus ((try simp only [Sx.sizes]); omega)); rotate_right) | (apply Blk.below (hb := hb2); rotate_left; (focus ((try simp only [Sx.sizes]); omega)); rotate_right) | (apply Blk.below (hb := hb3); rotate_left; (focus ((try simp only [Sx.sizes]); omega)); rotate_right) | (apply Blk.below (hb := hb4); rotate_left; (focus ((try simp only [Sx.sizes]); omega)); rotate_right) | (apply Blk.below (hb := hb5); rotate_left; (focus ((try simp only [Sx.sizes]); omega)); rotate_right) | (apply Blk.below (hb := hb6); rotate_left; (focus ((try simp only [Sx.sizes]); omega)); rotate_right) | (apply Blk.below (hb := hb7); rotate_left; (focus ((try simp only [Sx.sizes]); omega)); rotate_right) | (apply Blk.below (hb := hb8); rotate_left; (focus ((try simp only [Sx.sizes]); omega)); rotate_right) | (apply Blk.below (hb := hb9); rotate_left; (focus ((try simp only [Sx.sizes]); omega)); rotate_right) | exact Blk.newE (by first | rfl | ((try simp only [Sx.sizes]); first | done | omega)) _ _ | exact Blk.put_same (by (try simp only [Sx.sizes]); first | done | omega) _ _ | (apply Blk.put_ne; (focus omega)) | apply Blk.alloc | apply Blk.drew)); done)⟩ ?_
          · unfold ocs cutO
            dsimp only
            rw [if_neg h0]
            dsimp only
            rw [hcast]
            exact (by (repeat (first | assumption | (apply Blk.below (hb := hb1); rotate_left; (focus ((try simp only [Sx.sizes]); omega)); rotate_right) | (apply Blk.below (hb := hb2); rotate_left; (focus ((try simp only [Sx.sizes]); omega)); rotate_right) | (apply Blk.below (hb := hb3); rotate_left; (focus ((try simp only [Sx.sizes]); omega)); rotate_right) | (apply Blk.below (hb := hb4); rotate_left; (focus ((try simp only [Sx.sizes]); omega)); rotate_right) | (apply Blk.below (hb := hb5); rotate_left; (focus ((try simp only [Sx.sizes]); omega)); rotate_right) | (apply Blk.below (hb := hb6); rotate_left; (focus ((try simp only [Sx.sizes]); omega)); rotate_right) | (apply Blk.below (hb := hb7); rotate_left; (focus ((try simp only [Sx.sizes]); omega)); rotate_right) | (apply Blk.below (hb := hb8); rotate_left; (focus ((try simp only [Sx.sizes]); omega)); rotate_right) | (apply Blk.below (hb := hb9); rotate_left; (focus ((try simp only [Sx.sizes]); omega)); rotate_right) | exact Blk.newE (by first | rfl | ((try simp only [Sx.sizes]); first | done | omega)) _ _ | exact Blk.put_same (by (try simp only [Sx.sizes]); first | done | omega) _ _ | (apply Blk.put_ne; (focus omega)) | apply Blk.alloc | apply Blk.drew)); done)
          rintro D ⟨bD, k0D, k6D⟩
          have sD := bD.size
          (apply Lst_call; (focus rfl); (focus rfl))
          refine (Utf.r_Cut o.tx fn tn D hs).mono ?_
          rintro v E ⟨rfl, hE⟩
          have bE := bD.trans (hE.mono sD)
          have k0E := k0D.below hE k0D.lt
          have k6E := k6D.below hE k6D.lt
          have l0E := k0E.lt
          have l6E := k6E.lt
          clear k0B k6B k0D k6D l0B l6B bB bD
          unfold ocs cutO at k0E
          unfold ocs oz at k6E
          dsimp only at k0E
          (refine Ga ?_)
          (refine Retat ?_)
          exact ⟨by unfold cutR; rw [if_pos (show 0 ≤ (fn : Int) ∧ (fn : Int) < (tn : Int) ∧ (tn : Int) ≤ (len o : Int) from ⟨by omega, h2, h3⟩), if_pos hk]; rfl, Bel⟩
      · (refine Ga ?_)
        (refine Retat ?_)
        exact ⟨by unfold cutR; rw [if_pos ⟨by omega, h2, h3⟩, if_neg hk]; rfl, Bel⟩
    · (refine Ga ?_)
      (refine Retat ?_)
      exact ⟨by unfold cutR; rw [if_neg (by omega)]; rfl, Bel⟩
  · (refine Ga ?_)
    (refine Retat ?_)
    exact ⟨by unfold cutR; rw [if_neg (by omega)]; rfl, Bel⟩
set_option maxHeartbeats 8000000 in
theorem r_JoinS (ts : List ByteArray) (p : Nat) (a : Option Addr) (c : Nat) (h1 : 1 ≤ ts.length) (hn : ts.length ≤ 1000) (ht : ∀ t ∈ ts, Tx t) (hz : ∀ i, (catB (ts.take i)).size ≤ 1000000) (hz1 : ∀ t ∈ ts, t.size ≤ 1000000) (hp : p + tot ts ≤ 1000000) (w : World) (hr : SRows w 22 (.slice a ts.length c) ((seg p ts).map ocs)) :
    Does Tryz.prog 21 #[.slice a ts.length c] w fun v w' => OwnO w.heap.size w' v (seg p (cuts (tot ts) (runesT ts))) ∧ Below w.heap.size w w' := by
  refine Does_of (args := [.slice a ts.length c]) Tryz.func21 (by kernel_rfl) rfl rfl rfl rfl rfl ?_
  have hL : (seg p ts).length = ts.length := seg_len p ts
  have hch := seg_chain ht (p := p) (by omega)
  have hup := hch.up
  have htx := seg_tx p ts
  have hso : ∀ o ∈ seg p ts, OkT o ∧ o.tx.size ≤ 1000000 := fun o ho => ⟨hch.ok o ho, by
    have := List.mem_map_of_mem (f := Mo.tx) ho
    rw [htx] at this
    exact hz1 _ this⟩
  have hsg : ∀ i (h : i < ts.length) (h' : i < (seg p ts).length), (seg p ts)[i]'h' = pc (p + tot (ts.take i)) ts[i] := fun i h _ => seg_get p ts i h
  have htl := tot_take_le ts
  generalize hS0 : seg p ts = S at *
  (refine Ga ?_)
  refine Tl.W_cutB (α := World × Value) (fun x => [(3, x.2)]) (fun x A => A = x.1 ∧ OwnO w.heap.size A x.2 S ∧ Below w.heap.size w A) ?_ ?_
  · refine W_loop (α := Nat × Value) (fun x => [(0, .slice a ts.length c), (3, x.2), (4, .int .i64 (x.1 : Int))]) (fun x A => x.1 ≤ ts.length ∧ OwnO w.heap.size A x.2 (S.take x.1) ∧ Below w.heap.size w A) (fun x _ => ts.length - x.1) (0, .slice none 0 0) ⟨Nat.zero_le _, OwnO.nil _ _, Bel⟩ ⟨rfl, rfl, rfl, trivial⟩ ?_
    rintro J ⟨i, sv⟩ A ⟨hi, hoA, bA⟩
    dsimp only at hi hoA bA ⊢
    have hti : (S.take i).length = i := by rw [List.length_take]; omega
    by_cases hil : i < ts.length
    · obtain ⟨g, off, rfl, _, hc⟩ := (SRows.below hr bA (Nat.le_refl _)).at (i := i) (by rw [List.length_map]; omega)
      rw [List.getElem_map] at hc
      have htk : S.take (i + 1) = S.take i ++ [S[i]'(by omega)] := List.take_succ_eq_append_getElem (by omega)
      have hlt : ∀ k (h : k < i), lt (S[k]'(by omega)).id (S[i]'(by omega)).id = true := fun k h => List.pairwise_iff_getElem.1 hup k i (by omega) (by omega) h
      obtain ⟨hok, hsz⟩ := hso _ (List.getElem_mem (show i < S.length by omega))
      obtain ⟨o, ho⟩ : ∃ o, S[i]'(by omega) = o := ⟨_, rfl⟩
      rw [ho] at hc hok hsz htk
      (refine Ga ?_)
      apply Lst_pu
      · apply P_idxm (j := i) (sz := 22)
        focus rfl
        focus rfl
        focus rfl
        focus rfl
        focus rfl
        focus omega
      focus rfl
      (refine Ga ?_)
      apply Lst_loadS' (cs := ocs o)
      focus rfl
      focus rfl
      focus rfl
      focus rfl
      focus rfl
      focus exact hc
      focus rfl
      (refine Ga ?_)
      (apply Lst_call; (focus rfl); (focus rfl))
      refine (o_Check o (by rw [hok.key]; decide) hsz A).mono ?_
      rintro v B ⟨z, rfl, _, hz0, hB⟩
      obtain rfl := hz0 hok
      have bB := bA.trans (hB.mono bA.size)
      have hoB : OwnO w.heap.size B sv (S.take i) := own_below hoA hB (Nat.le_refl _)
      have ho2 : B.ownsRow w.heap.size 31 22 sv i ((S.take i).map ocs).flatten := by have := hoB; unfold OwnO at this; rwa [hti] at this
      obtain ⟨v1, v3, rfl, hv13⟩ := own_form ho2
      clear hoA hB hc
      (refine Ga ?_)
      refine W_loop (α := Nat) (fun k => [(0, .slice (some ⟨g, off, none⟩) ts.length c), (3, .slice v1 i v3), (4, .int .i64 (i : Int)), (5, .int .i64 (k : Int))]) (fun k C => k ≤ i ∧ Below B.heap.size B C) (fun k _ => i - k) 0 ⟨Nat.zero_le _, Below.refl _ _⟩ ⟨rfl, rfl, rfl, rfl, trivial⟩ ?_
      rintro J k C ⟨hk, hC⟩
      have bC := bB.trans (hC.mono bB.size)
      have hoC : OwnO w.heap.size C (.slice v1 i v3) (S.take i) := own_below hoB hC (Nat.le_refl _)
      obtain ⟨g', off', e', _, hc⟩ := (SRows.below hr bC (Nat.le_refl _)).at (i := i) (by rw [List.length_map]; omega)
      cases e'
      rw [List.getElem_map, ho] at hc
      by_cases hki : k < i
      · obtain ⟨g1, off1, rfl, _, hc1⟩ := hoC.rows.at (i := k) (by rw [List.length_map]; omega)
        rw [List.getElem_map, List.getElem_take] at hc1
        have hlk := hlt k hki
        rw [ho] at hlk
        obtain ⟨ok, hok'⟩ : ∃ x, S[k]'(by omega) = x := ⟨_, rfl⟩
        rw [hok'] at hc1 hlk
        (refine Ga ?_)
        refine W_draw 15 (fun A' => A' = World.drew _) rfl (by kernel_rfl) rfl ?_
        (refine Qa ?_)
        apply Qst_pu
        · apply P_idxm (j := k) (sz := 22)
          focus rfl
          focus rfl
          focus rfl
          focus rfl
          focus rfl
          focus omega
        focus rfl
        (refine Qa ?_)
        apply Qst_loadS (cs := idcs ok.id) (hc := fun A9 hA9 j u hu => by subst hA9; exact id_cells hc1 j u hu)
        focus rfl
        focus rfl
        focus rfl
        focus rfl
        focus rfl
        focus rfl
        (refine Qa ?_)
        apply Qst_pu
        · apply P_idxm (j := i) (sz := 22)
          focus rfl
          focus rfl
          focus rfl
          focus rfl
          focus rfl
          focus omega
        focus rfl
        (refine Qa ?_)
        apply Qst_loadS (cs := idcs o.id) (hc := fun A9 hA9 j u hu => by subst hA9; exact id_cells hc j u hu)
        focus rfl
        focus rfl
        focus rfl
        focus rfl
        focus rfl
        focus rfl
        (refine Qa ?_)
        rintro _ rfl
        have bC2 := Below.drew bC
        have hC2 := Below.drew hC
        generalize C.drew = X at *
        (refine Ga ?_)
        (apply Lst_call; (focus rfl); (focus rfl))
        refine (r_Less6 ok.id o.id X).mono ?_
        rintro v Y ⟨rfl, hY⟩
        rw [hlk]
        (refine Ga ?_)
        refine rndQ_n (α := Nat) (k + 1) ⟨hki, hC2.trans (hY.mono hC2.size)⟩ ⟨rfl, rfl, rfl, ?_, trivial⟩ (by omega)
        exact congrArg (Value.int .i64) (by omega)
      · obtain rfl : k = i := by omega
        (refine Ga ?_)
        refine W_draw 15 (fun A' => A' = World.drew _) rfl (by kernel_rfl) rfl ?_
        (refine Qa ?_)
        rintro _ rfl
        (refine Ga ?_)
        refine W_draw 16 (fun A' => A' = World.drew _) rfl (by kernel_rfl) rfl ?_
        (refine Qa ?_)
        rintro _ rfl
        have hoD := own_drew (own_drew hoC)
        have bD := Below.drew (Below.drew bC)
        unfold OwnO at hoD
        rw [hti] at hoD
        generalize C.drew.drew = D at *
        have sD := bD.size
        (refine Ga ?_)
        apply Lst_push (hown := hoD) (bytes := 200)
        ((focus constructor); (focus rfl); (focus rfl); (focus rfl); (focus rfl); (focus rfl); (focus rfl); (focus rfl); (focus rfl); (focus rfl); (focus rfl); (focus simp [Value.oneCell']); (focus rfl); (focus rfl); (focus rfl); (focus rfl); (focus omega); (focus omega); (focus omega))
        intro v4 E ho2 hg2 _
        have bE := Below.own bD hoD hg2 (Nat.le_refl _) sD
        have ho3 : E.ownsRow w.heap.size 31 22 v4 (k + 1) ((S.take k ++ [oz]).map ocs).flatten := by
          rw [List.map_append, List.flatten_append]
          have e : ([oz].map ocs).flatten = ocs oz := by simp
          rw [e]
          exact ho2
        obtain ⟨y1, y3, rfl, hy3⟩ := own_form ho3
        clear hoD ho2 hg2 hc hoC hoB bC bD
        (refine Ga ?_)
        refine W_loop (α := Nat) (fun x => [(0, .slice (some ⟨g, off, none⟩) ts.length c), (3, .slice y1 (k + 1) y3), (4, .int .i64 (k : Int)), (5, .int .i64 (k : Int)), (6, .int .i64 (x : Int))]) (fun x A' => x = k ∧ A' = E) (fun _ _ => 0) k ⟨rfl, rfl⟩ ⟨rfl, rfl, rfl, rfl, ?_, trivial⟩ ?_
        · exact congrArg (Value.int .i64) (by omega)
        rintro J x E' ⟨rfl, rfl⟩
        skip
        have hlen : ((S.take x ++ [oz]).map ocs).length = x + 1 := by rw [List.length_map, List.length_append, hti]; rfl
        obtain ⟨g1, cap, l1, e1, hc1, hb1, kl, hl1, hset⟩ := own_setR0 ho3 (ocs_len _) (by decide) (k := x) (by omega)
        cases e1
        obtain ⟨g', off', e', _, hcE⟩ := (SRows.below hr bE (Nat.le_refl _)).at (i := x) (by rw [List.length_map]; omega)
        rw [List.getElem_map, ho] at hcE
        cases e'
        have hs2 := hset (ocs o) rfl
        have hse : (S.take x ++ [oz]).set x o = S.take (x + 1) := by
          rw [htk, List.set_append_right _ _ (by omega), hti, Nat.sub_self]
          rfl
        rw [← List.map_set, hse] at hs2
        have hl2 : (S.take (x + 1)).length = x + 1 := by rw [List.length_take]; omega
        (refine Ga ?_)
        apply Lst_pu
        · apply P_idxm (j := x) (sz := 22)
          focus rfl
          focus rfl
          focus rfl
          focus rfl
          focus rfl
          focus omega
        focus rfl
        (refine Ga ?_)
        apply Lst_loadS' (cs := ocs o)
        focus rfl
        focus rfl
        focus rfl
        focus rfl
        focus rfl
        focus exact hcE
        focus rfl
        (refine Ga ?_)
        apply Lst_pu
        · apply P_idxm (j := x) (sz := 22)
          focus rfl
          focus rfl
          focus rfl
          focus rfl
          focus rfl
          focus omega
        focus rfl
        apply Lst_storeM (vs := ocs o) (hb := kl)
        focus rfl
        focus rfl
        focus rfl
        focus rfl
        focus exact fun u hu => ocs_one [o] u (by simpa using hu)
        focus exact hl1
        (refine Ga ?_)
        refine rndQ_n (α := Nat × Value) (x + 1, .slice (some ⟨g1, 0, none⟩) (x + 1) y3) ⟨hil, by dsimp only; unfold OwnO; rw [hl2]; exact hs2, Bel⟩ ⟨rfl, rfl, ?_, trivial⟩ (by dsimp only; omega)
        exact congrArg (Value.int .i64) (by dsimp only; omega)
    · obtain rfl : i = ts.length := by omega
      (refine Ga ?_)
      have hfull : S.take ts.length = S := List.take_of_length_le (by omega)
      rw [hfull] at hoA
      exact cutQ_n (A, sv) ⟨rfl, hoA, bA⟩ ⟨rfl, trivial⟩
  · rintro J ⟨A0, sv⟩ A ⟨rfl, hoS, bA⟩
    dsimp only at hoS bA ⊢
    unfold OwnO at hoS
    rw [hL] at hoS
    obtain ⟨v1, v3, rfl, hv13⟩ := own_form hoS
    have hoS' : OwnO w.heap.size A (.slice v1 ts.length v3) S := by unfold OwnO; rw [hL]; exact hoS
    clear hoS
    (refine Ga ?_)
    refine Tl.W_cutB (α := World × Value) (fun x => [(7, x.2)]) (fun x B => B = x.1 ∧ OwnO w.heap.size B x.2 [pc p (catB ts)] ∧ Below w.heap.size w B) ?_ ?_
    · refine W_loop (α := Nat × Value) (fun x => [(3, .slice v1 ts.length v3), (7, x.2), (8, .int .i64 (x.1 : Int))]) (fun x B => x.1 ≤ ts.length ∧ (x.1 = 0 ∧ x.2 = .slice none 0 0 ∨ 1 ≤ x.1 ∧ OwnO A.heap.size B x.2 [pc p (catB (ts.take x.1))]) ∧ Below A.heap.size A B) (fun x _ => ts.length - x.1) (0, .slice none 0 0) ⟨Nat.zero_le _, .inl ⟨rfl, rfl⟩, Below.refl _ _⟩ ⟨rfl, rfl, rfl, trivial⟩ ?_
      rintro J ⟨i, rv⟩ B ⟨hi, hh, hB⟩
      dsimp only at hi hh hB ⊢
      have bB := bA.trans (hB.mono bA.size)
      have hoB : OwnO w.heap.size B (.slice v1 ts.length v3) S := own_below hoS' hB (Nat.le_refl _)
      by_cases hil : i < ts.length
      · obtain ⟨g, off, rfl, _, hc⟩ := hoB.rows.at (i := i) (by rw [List.length_map]; omega)
        rw [List.getElem_map] at hc
        obtain ⟨hok, hsz⟩ := hso _ (List.getElem_mem (show i < S.length by omega))
        have hpi := hsg i hil (by omega)
        rw [hpi] at hc hok hsz
        have hcn := cat_take_succ ts i hil
        rcases hh with ⟨rfl, rfl⟩ | ⟨h1i, hrv⟩
        · have hp0 : pc (p + tot (ts.take 0)) ts[0] = pc p (catB (ts.take (0 + 1))) := by
            rw [hcn]
            show pc (p + 0) ts[0] = pc p (⟨#[]⟩ ++ ts[0])
            rw [Nat.add_zero, show (⟨#[]⟩ : ByteArray) ++ ts[0] = ts[0] from ByteArray.empty_append]
          rw [hp0] at hc
          obtain ⟨o, ho⟩ : ∃ o, pc p (catB (ts.take (0 + 1))) = o := ⟨_, rfl⟩
          rw [ho] at hc
          (refine Ga ?_)
          refine W_draw 12 (fun A' => A' = World.drew _) rfl (by kernel_rfl) rfl ?_
          (refine Qa ?_)
          rintro _ rfl
          have hB2 := Below.drew hB
          have hBD := Below.drew (Below.refl B.heap.size B)
          have sD : A.heap.size ≤ B.drew.heap.size := hB2.size
          generalize B.drew = D at *
          (refine Gf ?_)
          (refine Ga ?_)
          apply Lst_pu
          · apply P_idxm (j := 0) (sz := 22)
            focus rfl
            focus rfl
            focus rfl
            focus rfl
            focus rfl
            focus omega
          focus rfl
          (refine Ga ?_)
          apply Lst_loadS' (cs := ocs o)
          focus rfl
          focus rfl
          focus rfl
          focus rfl
          focus rfl
          focus exact (fun j u hu => cell_below hBD (hc j u hu))
          focus rfl
          (refine Ga ?_)
          (apply Lst_slit; (focus rfl); (focus rfl); (focus rfl); (focus rfl); (focus rfl); (focus rfl); (focus rfl); (focus rfl); (focus rfl); (focus (repeat (first | apply FillO.nil | (apply FillO.cons; (focus constructor); (focus rfl); (focus rfl); (focus (repeat constructor)))))); (focus ((try simp only [Sx.sizes]); first | done | rfl)); (focus rfl))
          refine Lst_abs (fun E => Below A.heap.size A E ∧ Blk E D.heap.size (ocs o) 31) ⟨Bel, by unfold ocs; exact (by (repeat (first | assumption | (apply Blk.below (hb := hb1); rotate_left; (focus ((try simp only [Sx.sizes]); omega)); rotate_right) | (apply Blk.below (hb := hb2); rotate_left; (focus ((try simp only [Sx.sizes]); omega)); rotate_right) | (apply Blk.below (hb := hb3); rotate_left; (focus ((try simp only [Sx.sizes]); omega)); rotate_right) | (apply Blk.below (hb := hb4); rotate_left; (focus ((try simp only [Sx.sizes]); omega)); rotate_right) | (apply Blk.below (hb := hb5); rotate_left; (focus ((try simp only [Sx.sizes]); omega)); rotate_right) | (apply Blk.below (hb := hb6); rotate_left; (focus ((try simp only [Sx.sizes]); omega)); rotate_right) | (apply Blk.below (hb := hb7); rotate_left; (focus ((try simp only [Sx.sizes]); omega)); rotate_right) | (apply Blk.below (hb := hb8); rotate_left; (focus ((try simp only [Sx.sizes]); omega)); rotate_right) | (apply Blk.below (hb := hb9); rotate_left; (focus ((try simp only [Sx.sizes]); omega)); rotate_right) | exact Blk.newE (by first | rfl | ((try simp only [Sx.sizes]); first | done | omega)) _ _ | exact Blk.put_same (by (try simp only [Sx.sizes]); first | done | omega) _ _ | (apply Blk.put_ne; (focus omega)) | apply Blk.alloc | apply Blk.drew)); done)⟩ ?_
          rintro E ⟨hE, kE⟩
          apply Lst_appendO (hown := OwnO.nil A.heap.size E) (hy := one_row kE)
          focus (simp only [List.length_singleton]; decide)
          focus exact hE.size
          focus rfl
          focus rfl
          focus rfl
          intro v' G hoG hG
          obtain ⟨x1, x2, x3, rfl⟩ := own_slice hoG
          (refine Ga ?_)
          refine rndQ_n (α := Nat × Value) (0 + 1, .slice x1 x2 x3) ⟨hil, .inr ⟨Nat.le_refl _, by dsimp only; rw [ho]; exact hoG⟩, hE.trans hG⟩ ⟨rfl, rfl, rfl, trivial⟩ (by dsimp only; omega)
        · obtain ⟨T, hT⟩ : ∃ T, catB (ts.take i) = T := ⟨_, rfl⟩
          have hlT : len (pc p T) = tot (ts.take i) := by
            unfold len
            rw [if_pos (show (pc p T).k = 1 from rfl), ← tot_len, ← (catB_rs (ts := ts.take i) fun t h => ht t (List.mem_of_mem_take h)).2, hT]
            rfl
          have htt := htl i
          have hti1 : 1 ≤ tot (ts.take i) := by
            have h1 := tot_take_succ ts (i - 1) (by omega)
            rw [show i - 1 + 1 = i by omega] at h1
            have h2 := (ht ts[i - 1] (List.getElem_mem _)).n1
            omega
          have hfo : folO (pc p T) (pc (p + tot (ts.take i)) ts[i]) = true := by
            have h := fol_pc p T ts[i] (by rw [show rn T = tot (ts.take i) by rw [← hlT]; unfold len; rw [if_pos (show (pc p T).k = 1 from rfl)]; rfl]; omega)
            rwa [show rn T = tot (ts.take i) by rw [← hlT]; unfold len; rw [if_pos (show (pc p T).k = 1 from rfl)]; rfl] at h
          have hszT : T.size ≤ 1000000 := by rw [← hT]; exact hz i
          have hszi : (ts[i]).size ≤ 1000000 := hz1 _ (List.getElem_mem hil)
          have hszn : (T ++ ts[i]).size ≤ 1000000 := by rw [← hT, ← hcn]; exact hz (i + 1)
          rw [hT] at hrv hcn
          change B.ownsRow A.heap.size 31 22 rv 1 ([pc p T].map ocs).flatten at hrv
          obtain ⟨r1, r3, rfl, _⟩ := own_form hrv
          have hco := (show OwnO A.heap.size B (.slice r1 1 r3) [pc p T] from hrv).rows.at (i := 0) (show 0 < 1 by decide)
          obtain ⟨g1, c1, l1, e1, hc1, hb1, kl, hl1, hset⟩ := own_set hrv (k := 8) (show 8 < 22 by decide)
          cases e1
          obtain ⟨g', off', e', _, hc0⟩ := hco
          cases e'
          have hc8 := hc 8 (.string ts[i]) rfl
          have hc08 := hc0 8 (.string T) rfl
          obtain ⟨o, ho⟩ : ∃ o, pc (p + tot (ts.take i)) ts[i] = o := ⟨_, rfl⟩
          rw [ho] at hc hok hsz hfo
          (refine Ga ?_)
          refine W_draw 12 (fun A' => A' = World.drew _) rfl (by kernel_rfl) rfl ?_
          (refine Qa ?_)
          apply Qst_pu
          · apply P_idxm (j := 0) (sz := 22)
            focus rfl
            focus rfl
            focus rfl
            focus rfl
            focus rfl
            focus omega
          focus rfl
          (refine Qa ?_)
          apply Qst_loadS (cs := ocs (pc p T)) (hc := fun A9 hA9 j u hu => by subst hA9; exact hc0 j u hu)
          focus rfl
          focus rfl
          focus rfl
          focus rfl
          focus rfl
          focus rfl
          (refine Qa ?_)
          apply Qst_pu
          · apply P_idxm (j := i) (sz := 22)
            focus rfl
            focus rfl
            focus rfl
            focus rfl
            focus rfl
            focus omega
          focus rfl
          (refine Qa ?_)
          apply Qst_loadS (cs := ocs o) (hc := fun A9 hA9 j u hu => by subst hA9; exact hc j u hu)
          focus rfl
          focus rfl
          focus rfl
          focus rfl
          focus rfl
          focus rfl
          (refine Qa ?_)
          rintro _ rfl
          (refine Ga ?_)
          (apply Lst_call; (focus rfl); (focus rfl))
          refine (r_Fits (pc p T) o hszT (by show 1 ≤ 1 + p; omega) (by rw [hlT]; show 1 + p + tot (ts.take i) ≤ _; omega) hfo _).mono ?_
          rintro v D ⟨rfl, hD⟩
          have hB2 := (Below.drew hB).trans (hD.mono (Below.drew hB).size)
          have hD2 : Below B.heap.size B D := (Below.drew (Below.refl _ B)).trans hD
          have hrD : D.ownsRow A.heap.size 31 22 (.slice (some ⟨g1, 0, none⟩) 1 r3) 1 ([pc p T].map ocs).flatten := own_below hrv hD2 (Nat.le_refl _)
          have hc08' := cell_below hD2 hc08
          have hc8' := cell_below hD2 hc8
          clear hc08 hc8 hc hc0 kl hset hrv
          obtain ⟨g', c', l1, e', hc1, hb1, kl, hl1, hset⟩ := own_set (own_drew hrD) (k := 8) (show 8 < 22 by decide)
          cases e'
          have hs2 := hset (.string (T ++ ts[i]))
          (refine Ga ?_)
          refine W_draw 17 (fun A' => A' = World.drew _) rfl (by kernel_rfl) rfl ?_
          (refine Qa ?_)
          apply Qst_pu
          · apply P_idxm (j := 0) (sz := 22)
            focus rfl
            focus rfl
            focus rfl
            focus rfl
            focus rfl
            focus omega
          focus rfl
          (refine Qa ?_)
          (refine Qa ?_)
          apply Qst_pu
          · apply P_idxm (j := i) (sz := 22)
            focus rfl
            focus rfl
            focus rfl
            focus rfl
            focus rfl
            focus omega
          focus rfl
          (refine Qa ?_)
          (refine Qa ?_)
          apply Qst_pu
          · apply P_idxm (j := 0) (sz := 22)
            focus rfl
            focus rfl
            focus rfl
            focus rfl
            focus rfl
            focus omega
          focus rfl
          (refine Qa ?_)
          rintro _ rfl
          have hB3 := Below.drew hB2
          apply Lst_storeN (v := .string (T ++ ts[i])) (hb := kl)
          focus rfl
          focus constructor
          focus rfl
          focus rfl
          focus rfl
          focus rfl
          focus exact hl1
          (refine Ga ?_)
          refine rndQ_n (α := Nat × Value) (i + 1, .slice (some ⟨g1, 0, none⟩) 1 r3) ⟨hil, .inr ⟨by dsimp only; omega, by dsimp only; rw [hcn]; exact hs2⟩, Bel⟩ ⟨rfl, rfl, ?_, trivial⟩ (by dsimp only; omega)
          exact congrArg (Value.int .i64) (by dsimp only; omega)
      · obtain rfl : i = ts.length := by omega
        rcases hh with ⟨h0, _⟩ | ⟨h1i, hrv⟩
        · omega
        rw [List.take_length] at hrv
        (refine Ga ?_)
        exact cutQ_n (B, rv) ⟨rfl, own_low' hrv bA.size, bB⟩ ⟨rfl, trivial⟩
    · rintro J ⟨B0, rv⟩ B ⟨rfl, hrB, bB⟩
      dsimp only at hrB bB ⊢
      have hTsz : (catB ts).size ≤ 1000000 := by have := hz ts.length; rwa [List.take_length] at this
      obtain ⟨hTv, hTr⟩ := catB_rs ht
      have hlT : len (pc p (catB ts)) = tot ts := by
        unfold len
        rw [if_pos (show (pc p (catB ts)).k = 1 from rfl), ← tot_len, ← hTr]
        rfl
      have hg : ∀ x ∈ runesT ts, Utf.good x := fun x hx => by
        rw [← hTr] at hx
        exact Utf.rs_good _ x hx
      have hcs := cutR_seg (p := p) (T := catB ts)
      rw [hTr] at hcs
      have hNl : (runesT ts).length = tot ts := tot_len ts
      have hcl := cuts_len (tot ts) (runesT ts) (by omega)
      have hct := cuts_tot hg
      rw [hNl] at hcs hcl hct
      have htot1 : 1 ≤ tot ts := by
        have h2 := tot_take_succ ts 0 (by omega)
        have h3 := (ht ts[0] (List.getElem_mem _)).n1
        have h4 := tot_take_le ts (0 + 1)
        omega
      generalize hcseq : cuts (tot ts) (runesT ts) = cs at *
      generalize hTeq : catB ts = T at *
      generalize hNeq : tot ts = N at *
      have hrB2 := hrB
      change B.ownsRow w.heap.size 31 22 rv 1 ([pc p T].map ocs).flatten at hrB2
      obtain ⟨r1, r3, rfl, _⟩ := own_form hrB2
      have hsl : (seg p cs).length = cs.length := seg_len p cs
      clear hrB2 hup hch hso hsg hTr hoS' hr htx
      (refine Ga ?_)
      refine W_loop (α := Nat × Value) (fun x => [(7, .slice r1 1 r3), (10, x.2), (11, .int .i64 (x.1 : Int))]) (fun x C => Below w.heap.size w C ∧ (x.1 = 0 ∧ x.2 = .slice none 0 0 ∧ OwnO w.heap.size C (.slice r1 1 r3) [pc p T] ∨ x.1 = 1 ∧ OwnO w.heap.size C x.2 (seg p cs))) (fun x _ => 1 - x.1) (0, .slice none 0 0) ⟨bB, .inl ⟨rfl, rfl, hrB⟩⟩ ⟨rfl, rfl, rfl, trivial⟩ ?_
      rintro J ⟨i, ov⟩ C ⟨bC, hh⟩
      dsimp only at hh bC ⊢
      rcases hh with ⟨rfl, rfl, hrC⟩ | ⟨rfl, hoC⟩
      · have hco := hrC.rows.at (i := 0) (show 0 < 1 by decide)
        obtain ⟨g, off, rfl, _, hc⟩ := hco
        obtain ⟨o, ho⟩ : ∃ o, pc p T = o := ⟨_, rfl⟩
        have hok1 : o.k = 1 := by rw [← ho]; rfl
        have hrt : rightId o.id = true := by rw [← ho]; exact right_of ⟨by decide, by decide⟩ ⟨by omega, by omega⟩
        have hsz : o.tx.size ≤ 1000000 := by rw [← ho]; exact hTsz
        rw [List.getElem_map, List.getElem_singleton, ho] at hc
        rw [ho] at hlT hcs hrC
        (refine Ga ?_)
        apply Lst_pu
        · apply P_idxm (j := 0) (sz := 22)
          focus rfl
          focus rfl
          focus rfl
          focus rfl
          focus rfl
          focus omega
        focus rfl
        (refine Ga ?_)
        apply Lst_loadS' (cs := ocs o)
        focus rfl
        focus rfl
        focus rfl
        focus rfl
        focus rfl
        focus exact hc
        focus rfl
        (refine Ga ?_)
        (apply Lst_call; (focus rfl); (focus rfl))
        refine (o_Len o hsz C).mono ?_
        rintro v D ⟨rfl, hD⟩
        rw [hlT]
        have bD := bC.trans (hD.mono bC.size)
        have hrD : OwnO w.heap.size D (.slice (some ⟨g, off, none⟩) 1 r3) [o] := own_below hrC hD (Nat.le_refl _)
        clear hc
        (refine Ga ?_)
        refine W_loop (α := Nat × Value) (fun x => [(7, .slice (some ⟨g, off, none⟩) 1 r3), (10, x.2), (11, .int .i64 0), (12, .int .i64 (N : Int)), (13, .int .i64 ((4096 * x.1 : Nat) : Int))]) (fun x E => x.1 ≤ cs.length ∧ OwnO D.heap.size E x.2 ((seg p cs).take x.1) ∧ Below D.heap.size D E) (fun x _ => cs.length - x.1) (0, .slice none 0 0) ⟨Nat.zero_le _, OwnO.nil _ _, Below.refl _ _⟩ ⟨rfl, rfl, rfl, rfl, rfl, trivial⟩ ?_
        rintro J ⟨k, ov⟩ E ⟨hk, hoE, hE⟩
        dsimp only at hk hoE hE ⊢
        have bE := bD.trans (hE.mono bD.size)
        have hrE : OwnO w.heap.size E (.slice (some ⟨g, off, none⟩) 1 r3) [o] := own_below hrD hE (Nat.le_refl _)
        by_cases hkl : k < cs.length
        · have hk4 : 4096 * k < N := by omega
          obtain ⟨g', off', e', _, hc⟩ := hrE.rows.at (i := 0) (show 0 < 1 by decide)
          cases e'
          rw [List.getElem_map, List.getElem_singleton] at hc
          have hcut := hcs k hkl
          have hpt := hct k hk
          have hget := seg_get p cs k hkl
          have htk : (seg p cs).take (k + 1) = (seg p cs).take k ++ [(seg p cs)[k]'(by omega)] := List.take_succ_eq_append_getElem (by omega)
          rw [hget, hpt, show min (4096 * k) N = 4096 * k by omega] at htk
          obtain ⟨x, hx⟩ : ∃ x, pc (p + 4096 * k) cs[k] = x := ⟨_, rfl⟩
          rw [hx] at hcut htk
          (refine Ga ?_)
          apply Lst_pu
          · apply P_idxm (j := 0) (sz := 22)
            focus rfl
            focus rfl
            focus rfl
            focus rfl
            focus rfl
            focus omega
          focus rfl
          (refine Ga ?_)
          apply Lst_loadS' (cs := ocs o)
          focus rfl
          focus rfl
          focus rfl
          focus rfl
          focus rfl
          focus exact hc
          focus rfl
          (refine Ga ?_)
          have hz4 : (min (((4096 * k : Nat) : Int) + 4096) (N : Int)) = ((min (4096 * k + 4096) N : Nat) : Int) := by omega
          rw [hz4]
          (apply Lst_call; (focus rfl); (focus rfl))
          refine (r_OCutL o (fun _ => hrt) hsz _ _ ⟨by omega, by omega⟩ E).mono ?_
          rintro v G ⟨rfl, hG⟩
          have hv0 : o.v = ⟨0, 0, 0, ⟨#[]⟩⟩ := by rw [← ho]; rfl
          rw [hv0, hcut]
          have bG := bE.trans (hG.mono bE.size)
          have hG2 := hE.trans (hG.mono hE.size)
          have hoG : OwnO D.heap.size G ov ((seg p cs).take k) := own_below hoE hG (Nat.le_refl _)
          have sG := hG2.size
          unfold ocs
          (refine Ga ?_)
          refine Lst_abs (fun H => Below D.heap.size D H ∧ OwnO D.heap.size H ov ((seg p cs).take k) ∧ Blk H G.heap.size (ocs x) 31) ⟨Bel, ?_, by unfold ocs; exact (by (repeat (first | assumption | (apply Blk.below (hb := hb1); rotate_left; (focus ((try simp only [Sx.sizes]); omega)); rotate_right) | (apply Blk.below (hb := hb2); rotate_left; (focus ((try simp only [Sx.sizes]); omega)); rotate_right) | (apply Blk.below (hb := hb3); rotate_left; (focus ((try simp only [Sx.sizes]); omega)); rotate_right) | (apply Blk.below (hb := hb4); rotate_left; (focus ((try simp only [Sx.sizes]); omega)); rotate_right) | (apply Blk.below (hb := hb5); rotate_left; (focus ((try simp only [Sx.sizes]); omega)); rotate_right) | (apply Blk.below (hb := hb6); rotate_left; (focus ((try simp only [Sx.sizes]); omega)); rotate_right) | (apply Blk.below (hb := hb7); rotate_left; (focus ((try simp only [Sx.sizes]); omega)); rotate_right) | (apply Blk.below (hb := hb8); rotate_left; (focus ((try simp only [Sx.sizes]); omega)); rotate_right) | (apply Blk.below (hb := hb9); rotate_left; (focus ((try simp only [Sx.sizes]); omega)); rotate_right) | exact Blk.newE (by first | rfl | ((try simp only [Sx.sizes]); first | done | omega)) _ _ | exact Blk.put_same (by (try simp only [Sx.sizes]); first | done | omega) _ _ | (apply Blk.put_ne; (focus omega)) | apply Blk.alloc | apply Blk.drew)); done)⟩ ?_
          · exact own_below hoG (show Below G.heap.size G _ from Bel) (Nat.le_refl _)
          rintro H ⟨hH, hoH, kH⟩
          have sH := hH.size
          unfold ocs at kH
          (refine Ga ?_)
          (apply Lst_slit; (focus rfl); (focus rfl); (focus rfl); (focus rfl); (focus rfl); (focus rfl); (focus rfl); (focus rfl); (focus rfl); (focus (repeat (first | apply FillO.nil | (apply FillO.cons; (focus constructor); (focus rfl); (focus rfl); (focus (repeat constructor)))))); (focus ((try simp only [Sx.sizes]); first | done | rfl)); (focus rfl))
          refine Lst_abs (fun Y => Below H.heap.size H Y ∧ Blk Y H.heap.size (ocs x) 31) ⟨Bel, by unfold ocs; exact (by (repeat (first | assumption | (apply Blk.below (hb := hb1); rotate_left; (focus ((try simp only [Sx.sizes]); omega)); rotate_right) | (apply Blk.below (hb := hb2); rotate_left; (focus ((try simp only [Sx.sizes]); omega)); rotate_right) | (apply Blk.below (hb := hb3); rotate_left; (focus ((try simp only [Sx.sizes]); omega)); rotate_right) | (apply Blk.below (hb := hb4); rotate_left; (focus ((try simp only [Sx.sizes]); omega)); rotate_right) | (apply Blk.below (hb := hb5); rotate_left; (focus ((try simp only [Sx.sizes]); omega)); rotate_right) | (apply Blk.below (hb := hb6); rotate_left; (focus ((try simp only [Sx.sizes]); omega)); rotate_right) | (apply Blk.below (hb := hb7); rotate_left; (focus ((try simp only [Sx.sizes]); omega)); rotate_right) | (apply Blk.below (hb := hb8); rotate_left; (focus ((try simp only [Sx.sizes]); omega)); rotate_right) | (apply Blk.below (hb := hb9); rotate_left; (focus ((try simp only [Sx.sizes]); omega)); rotate_right) | exact Blk.newE (by first | rfl | ((try simp only [Sx.sizes]); first | done | omega)) _ _ | exact Blk.put_same (by (try simp only [Sx.sizes]); first | done | omega) _ _ | (apply Blk.put_ne; (focus omega)) | apply Blk.alloc | apply Blk.drew)); done)⟩ ?_
          rintro Y ⟨hY, kY⟩
          apply Lst_appendO (hown := own_below hoH hY (Nat.le_refl _)) (hy := one_row kY)
          focus (simp only [List.length_singleton, List.length_take]; omega)
          focus exact Nat.le_trans sH hY.size
          focus rfl
          focus rfl
          focus rfl
          intro v' U hoU hU
          obtain ⟨x1, x2, x3, rfl⟩ := own_slice hoU
          have hU2 := (hH.trans (hY.mono sH)).trans hU
          (refine Ga ?_)
          refine rndQ_n (α := Nat × Value) (k + 1, .slice x1 x2 x3) ⟨hkl, by dsimp only; rw [htk]; exact hoU, hU2⟩ ⟨rfl, rfl, rfl, rfl, ?_, trivial⟩ (by dsimp only; omega)
          exact congrArg (Value.int .i64) (by dsimp only; omega)
        · obtain rfl : k = cs.length := by omega
          have hfull : (seg p cs).take cs.length = seg p cs := List.take_of_length_le (by omega)
          rw [hfull] at hoE
          (refine Ga ?_)
          refine rndQ_n (α := Nat × Value) (1, ov) ⟨bE, .inr ⟨rfl, own_low' hoE bD.size⟩⟩ ⟨rfl, rfl, rfl, trivial⟩ (by dsimp only; omega)
      · (refine Ga ?_)
        obtain ⟨z1, z2, z3, rfl⟩ := own_slice hoC
        (apply retQ1; (focus rfl))
        exact ⟨hoC, bC⟩
end
end Op
end Go.Proofs.YtifkedhbelflkaaGreatDoor
