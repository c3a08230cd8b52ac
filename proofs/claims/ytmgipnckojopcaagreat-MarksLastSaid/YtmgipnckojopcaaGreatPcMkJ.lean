/- The reference's Check of an operation: it says some number of a mark (which one, the laws of marks do not ask). -/
import Derived.Test.YtmgipnckojopcaaGreatPcMkC
import Derived.Test.YtmgipnckojopcaaGreatPcVal7
namespace Go.Proofs.YtmgipnckojopcaaGreat
set_option maxRecDepth 100000
namespace Tl
open Go Go.RowKit Sx
/-- A cut behind a block that a list ends. -/
theorem Lst_cutB {P : Program} {rd : Option Nat} {n : Nat} {ops : Array Oper} {Q : Post} {rest : List Oper} {F : Fr} {ds : List Deferred} {w : World} {α : Type} (vals : α → St) (M : α → World → Prop) {y : Code} {id : Nat} (h1 : Lst P rd n ops (blkQ id (cutQ vals M Q ds)) rest F ds w)
    (h2 : ∀ (J : Fr) (g : α) (w' : World), M g w' → W P rd n y Q (fr J (vals g)) ds w') : Lst P rd n ops (blkQ id (seqQ P rd n y Q)) rest F ds w := Lst_post h1 fun e F ds' w h => by
  cases e with
  | exit i =>
    unfold blkQ at h ⊢
    cases hb : Nat.beq i id with
    | true => simp only [hb, cond_true] at h ⊢; exact cut_seq h2 _ _ _ _ h
    | false => simp only [hb, cond_false] at h ⊢; exact cut_seq h2 _ _ _ _ h
  | _ =>
    unfold blkQ at h ⊢
    exact cut_seq h2 _ _ _ _ h
end Tl
namespace Mk
open Go Go.RowKit Sx Tl Sq Val
theorem EqvF.mono {P : Program} {m m' : Nat} {xs ys : Array Value} {l : List Field} {r : Bool} (hm : m ≤ m') (h : EqvF P m xs ys l r) : EqvF P m' xs ys l r := fun d w hd => h d w (by omega)
theorem anc_eq (a b : Anc) : Eqv Tryz.prog 5 45 (.agg (acs a).toArray) (.agg (acs b).toArray) (decide (a = b)) := by
  obtain ⟨i, x⟩ := a
  obtain ⟨j, y⟩ := b
  unfold acs
  refine Eqv_struct (m := 4) Tryz.underlying45 (by kernel_rfl) ?_
  have h := id_eq i j
  by_cases h1 : i = j
  · rw [decide_eq_true h1] at h
    refine EqvF_t (m := 3) (m' := 1) (by decide) (PartR_A (cs := idcs i) Tryz.underlying40 rfl rfl rfl (by first | exact TakeR.nil _ | repeat (first | exact TakeR.nil _ | apply TakeR.here | apply TakeR.skip))) (PartR_A (cs := idcs j) Tryz.underlying40 rfl rfl rfl (by first | exact TakeR.nil _ | repeat (first | exact TakeR.nil _ | apply TakeR.here | apply TakeR.skip))) h ?_
    by_cases h2 : x = y
    · rw [decide_eq_true (by rw [h1, h2])]
      exact EqvF_t (m := 1) (m' := 0) (by decide) (PartR_1 Tryz.underlying4 rfl rfl) (PartR_1 Tryz.underlying4 rfl rfl) (Eqv_bool Tryz.underlying4 (by rw [h2]; simp)) EqvF_nil
    · rw [decide_eq_false (fun e => h2 (by injection e))]
      exact EqvF_f (m := 1) (by decide) (PartR_1 Tryz.underlying4 rfl rfl) (PartR_1 Tryz.underlying4 rfl rfl) (Eqv_bool Tryz.underlying4 (by simp [h2]))
  · rw [decide_eq_false h1] at h
    rw [decide_eq_false (fun e => h1 (by injection e))]
    exact EqvF.mono (m := 3) (by decide) (EqvF_f (by decide) (PartR_A (cs := idcs i) Tryz.underlying40 rfl rfl rfl (by repeat (first | exact TakeR.nil _ | apply TakeR.here | apply TakeR.skip))) (PartR_A (cs := idcs j) Tryz.underlying40 rfl rfl rfl (by repeat (first | exact TakeR.nil _ | apply TakeR.here | apply TakeR.skip))) h)
section
attribute [local irreducible] RnS
attribute [local irreducible] W Lst Qst Pu seqQ blkQ rndQ cutQ retQ Does Enters IntKind.wrap bits sb World.alloc World.putObj Blk
set_option maxHeartbeats 2000000 in
theorem o_none (k : Id) (w : World) : Does Tryz.prog 47 #[idv k] w fun v w' => v = .bool (decide (k = Fo.none')) ∧ Below w.heap.size w w' := by
  refine Does_of (args := [idv k]) Tryz.func47 (by kernel_rfl) rfl rfl rfl rfl rfl ?_
  unfold idv
  (refine Ga ?_)
  by_cases h : k = Fo.none'
  · apply Lst_pu
    · apply P_eqA
      focus rfl
      focus rfl
      focus kernel_rfl
      focus exact id_t h
      focus rfl
    focus rfl
    (refine Ga ?_)
    (apply retQ1; (focus rfl))
    exact ⟨by rw [decide_eq_true h]; rfl, Bel⟩
  · apply Lst_pu
    · apply P_eqA
      focus rfl
      focus rfl
      focus kernel_rfl
      focus exact id_f h
      focus rfl
    focus rfl
    (refine Ga ?_)
    (apply retQ1; (focus rfl))
    exact ⟨by rw [decide_eq_false h]; rfl, Bel⟩
set_option maxHeartbeats 2000000 in
theorem o_named (k : Id) (w : World) : Does Tryz.prog 46 #[idv k] w fun v w' => (∃ b, v = .bool b) ∧ Below w.heap.size w w' := by
  refine Does_of (args := [idv k]) Tryz.func46 (by kernel_rfl) rfl rfl rfl rfl rfl ?_
  unfold idv
  (refine Ga ?_)
  refine Lst_abs (fun A => Below w.heap.size w A ∧ Blk A w.heap.size [.int .u64 (k.1 : Int), .int .u64 (k.2 : Int)] 40) ⟨Bel, (by (repeat (first | assumption | (apply Blk.below (hb := hb1); rotate_left; (focus ((try simp only [Sx.sizes]); omega)); rotate_right) | (apply Blk.below (hb := hb2); rotate_left; (focus ((try simp only [Sx.sizes]); omega)); rotate_right) | (apply Blk.below (hb := hb3); rotate_left; (focus ((try simp only [Sx.sizes]); omega)); rotate_right) | (apply Blk.below (hb := hb4); rotate_left; (focus ((try simp only [Sx.sizes]); omega)); rotate_right) | (apply Blk.below (hb := hb5); rotate_left; (focus ((try simp only [Sx.sizes]); omega)); rotate_right) | (apply Blk.below (hb := hb6); rotate_left; (focus ((try simp only [Sx.sizes]); omega)); rotate_right) | (apply Blk.below (hb := hb7); rotate_left; (focus ((try simp only [Sx.sizes]); omega)); rotate_right) | (apply Blk.below (hb := hb8); rotate_left; (focus ((try simp only [Sx.sizes]); omega)); rotate_right) | (apply Blk.below (hb := hb9); rotate_left; (focus ((try simp only [Sx.sizes]); omega)); rotate_right) | exact Blk.newE (by first | rfl | ((try simp only [Sx.sizes]); first | done | omega)) _ _ | exact Blk.put_same (by (try simp only [Sx.sizes]); first | done | omega) _ _ | (apply Blk.put_ne; (focus omega)) | apply Blk.alloc | apply Blk.drew)); done)⟩ ?_
  rintro A ⟨hbA, kA⟩
  have lA := kA.lt
  (refine Ga ?_)
  (apply Lst_call; (focus rfl); (focus rfl))
  refine (o_none k A).mono ?_
  rintro v B ⟨rfl, hbB⟩
  have bB := hbA.trans (hbB.mono hbA.size)
  have kB := kA.below hbB lA
  by_cases h : k = Fo.none'
  · rw [decide_eq_true h]
    (refine Ga ?_)
    (apply retQ1; (focus rfl))
    exact ⟨⟨_, rfl⟩, Bel⟩
  · rw [decide_eq_false h]
    (refine Ga ?_)
    (apply Lst_call; (focus rfl); (focus rfl))
    refine (r_Right k B).mono ?_
    rintro v C ⟨rfl, hbC⟩
    have bC := bB.trans (hbC.mono bB.size)
    (refine Ga ?_)
    (apply retQ1; (focus rfl))
    exact ⟨⟨_, rfl⟩, Bel⟩
set_option maxHeartbeats 2000000 in
theorem o_key (s : ByteArray) (hs : s.size ≤ 200) (w : World) : Does Tryz.prog 52 #[.string s] w fun v w' => (∃ b, v = .bool b) ∧ Below w.heap.size w w' := by
  refine Does_of (args := [.string s]) Tryz.func52 (by kernel_rfl) rfl rfl rfl rfl rfl ?_
  by_cases h1 : 1 ≤ s.size
  · by_cases h2 : s.size ≤ 64
    · (refine Ga ?_)
      (apply Lst_call; (focus rfl); (focus rfl))
      refine (Utf.r_Check s w (by omega)).mono ?_
      rintro v w' ⟨rfl, hb⟩
      (refine Ga ?_)
      (apply retQ1; (focus rfl))
      exact ⟨⟨_, rfl⟩, hb⟩
    · (refine Ga ?_)
      (apply retQ1; (focus rfl))
      exact ⟨⟨_, rfl⟩, Bel⟩
  · (refine Ga ?_)
    (apply retQ1; (focus rfl))
    exact ⟨⟨_, rfl⟩, Bel⟩
set_option maxHeartbeats 2000000 in
theorem o_Len (o : Mo) (h3 : o.k = 3) (w : World) : Does Tryz.prog 54 #[.agg (ocs o).toArray] w fun v w' => v = .int .i64 1 ∧ Below w.heap.size w w' := by
  refine Does_of (args := [.agg (ocs o).toArray]) Tryz.func54 (by kernel_rfl) rfl rfl rfl rfl rfl ?_
  unfold ocs
  rw [h3]
  (refine Ga ?_)
  (apply retQ1; (focus rfl))
  exact ⟨rfl, Bel⟩
set_option maxHeartbeats 2000000 in
theorem o_names (o : Mo) (w : World) : Does Tryz.prog 53 #[.agg (ocs o).toArray] w fun v w' => ∃ b, v = .slice (some ⟨b, 0, none⟩) 5 5 ∧ w.heap.size ≤ b ∧ Blk w' b [.int .u64 (o.l.1 : Int), .int .u64 (o.l.2 : Int), .int .u64 (o.r.1 : Int), .int .u64 (o.r.2 : Int), .int .u64 (o.fr.id.1 : Int), .int .u64 (o.fr.id.2 : Int), .int .u64 (o.to.id.1 : Int), .int .u64 (o.to.id.2 : Int), .int .u64 (o.par.1 : Int), .int .u64 (o.par.2 : Int)] 40 ∧ Below w.heap.size w w' := by
  refine Does_of (args := [.agg (ocs o).toArray]) Tryz.func53 (by kernel_rfl) rfl rfl rfl rfl rfl ?_
  unfold ocs
  (refine Ga ?_)
  (apply Lst_slit; (focus rfl); (focus rfl); (focus rfl); (focus rfl); (focus rfl); (focus rfl); (focus rfl); (focus rfl); (focus rfl); (focus (repeat (first | apply FillO.nil | (apply FillO.cons; (focus constructor); (focus rfl); (focus rfl); (focus (repeat constructor)))))); (focus ((try simp only [Sx.sizes]); first | done | rfl)); (focus rfl))
  (refine Ga ?_)
  (apply retQ1; (focus rfl))
  exact ⟨_, rfl, (by (try simp only [Sx.sizes]); omega), (by (repeat (first | assumption | (apply Blk.below (hb := hb1); rotate_left; (focus ((try simp only [Sx.sizes]); omega)); rotate_right) | (apply Blk.below (hb := hb2); rotate_left; (focus ((try simp only [Sx.sizes]); omega)); rotate_right) | (apply Blk.below (hb := hb3); rotate_left; (focus ((try simp only [Sx.sizes]); omega)); rotate_right) | (apply Blk.below (hb := hb4); rotate_left; (focus ((try simp only [Sx.sizes]); omega)); rotate_right) | (apply Blk.below (hb := hb5); rotate_left; (focus ((try simp only [Sx.sizes]); omega)); rotate_right) | (apply Blk.below (hb := hb6); rotate_left; (focus ((try simp only [Sx.sizes]); omega)); rotate_right) | (apply Blk.below (hb := hb7); rotate_left; (focus ((try simp only [Sx.sizes]); omega)); rotate_right) | (apply Blk.below (hb := hb8); rotate_left; (focus ((try simp only [Sx.sizes]); omega)); rotate_right) | (apply Blk.below (hb := hb9); rotate_left; (focus ((try simp only [Sx.sizes]); omega)); rotate_right) | exact Blk.newE (by first | rfl | ((try simp only [Sx.sizes]); first | done | omega)) _ _ | exact Blk.put_same (by (try simp only [Sx.sizes]); first | done | omega) _ _ | (apply Blk.put_ne; (focus omega)) | apply Blk.alloc | apply Blk.drew)); done), Bel⟩
set_option maxHeartbeats 4000000 in
theorem o_Check (o : Mo) (h3 : o.k = 3) (hk : o.key.size ≤ 200) (w : World) : Does Tryz.prog 25 #[.agg (ocs o).toArray] w fun v w' => (∃ z, v = .int .i64 z) ∧ Below w.heap.size w w' := by
  refine Does_of (args := [.agg (ocs o).toArray]) Tryz.func25 (by kernel_rfl) rfl rfl rfl rfl rfl ?_
  unfold ocs
  rw [h3]
  (refine Ga ?_)
  refine Lst_abs (fun A => Below w.heap.size w A ∧ Blk A w.heap.size (ocs o) 47) ⟨Bel, by unfold ocs; rw [h3]; exact (by (repeat (first | assumption | (apply Blk.below (hb := hb1); rotate_left; (focus ((try simp only [Sx.sizes]); omega)); rotate_right) | (apply Blk.below (hb := hb2); rotate_left; (focus ((try simp only [Sx.sizes]); omega)); rotate_right) | (apply Blk.below (hb := hb3); rotate_left; (focus ((try simp only [Sx.sizes]); omega)); rotate_right) | (apply Blk.below (hb := hb4); rotate_left; (focus ((try simp only [Sx.sizes]); omega)); rotate_right) | (apply Blk.below (hb := hb5); rotate_left; (focus ((try simp only [Sx.sizes]); omega)); rotate_right) | (apply Blk.below (hb := hb6); rotate_left; (focus ((try simp only [Sx.sizes]); omega)); rotate_right) | (apply Blk.below (hb := hb7); rotate_left; (focus ((try simp only [Sx.sizes]); omega)); rotate_right) | (apply Blk.below (hb := hb8); rotate_left; (focus ((try simp only [Sx.sizes]); omega)); rotate_right) | (apply Blk.below (hb := hb9); rotate_left; (focus ((try simp only [Sx.sizes]); omega)); rotate_right) | exact Blk.newE (by first | rfl | ((try simp only [Sx.sizes]); first | done | omega)) _ _ | exact Blk.put_same (by (try simp only [Sx.sizes]); first | done | omega) _ _ | (apply Blk.put_ne; (focus omega)) | apply Blk.alloc | apply Blk.drew)); done)⟩ ?_
  rintro A ⟨bA, k0A⟩
  have kA := k0A
  unfold ocs at kA
  rw [h3] at kA
  have sA := bA.size
  generalize w.heap.size = bo at *
  (apply Lst_call; (focus rfl); (focus rfl))
  refine (r_Right o.id A).mono ?_
  rintro v W0 ⟨rfl, hW0⟩
  have bW0 := bA.trans (hW0.mono sA)
  have k0W0 := k0A.below hW0 kA.lt
  have kW0 := kA.below hW0 kA.lt
  have sW0 := Nat.le_trans sA hW0.size
  clear bA k0A kA sA hW0
  cases Fo.rightId o.id with
  | false =>
    (refine Ga ?_)
    (apply retQ1; (focus rfl))
    exact ⟨⟨_, rfl⟩, bW0⟩
  | true =>
    (refine Ga ?_)
    -- printed by gen_c8.py
    refine Lst_cut (α := Bool) (fun b4 => [(1, .pointer (some ⟨bo, 0, none⟩)), (4, .bool b4)]) (fun _ X => Below bo w X ∧ bo ≤ X.heap.size ∧ Blk X bo (ocs o) 47) ?_ ?_
    · (refine Ga ?_)
      (apply Lst_call; (focus rfl); (focus rfl))
      refine (o_named o.l W0).mono ?_
      rintro v W2 ⟨⟨q, rfl⟩, hW2⟩
      have bW2 := bW0.trans (hW2.mono sW0)
      have k0W2 := k0W0.below hW2 k0W0.lt
      have kW2 := kW0.below hW2 kW0.lt
      have sW2 := Nat.le_trans sW0 hW2.size
      clear bW0 k0W0 kW0 sW0 hW2
      cases q with
      | false =>
        (refine Ga ?_)
        exact cutQ_n false ⟨bW2, sW2, k0W2⟩ ⟨rfl, rfl, trivial⟩
      | true =>
        (refine Ga ?_)
        (apply Lst_call; (focus rfl); (focus rfl))
        refine (o_named o.r W2).mono ?_
        rintro v W3 ⟨⟨q, rfl⟩, hW3⟩
        have bW3 := bW2.trans (hW3.mono sW2)
        have k0W3 := k0W2.below hW3 k0W2.lt
        have kW3 := kW2.below hW3 kW2.lt
        have sW3 := Nat.le_trans sW2 hW3.size
        clear bW2 k0W2 kW2 sW2 hW3
        (refine Ga ?_)
        exact cutQ_n q ⟨bW3, sW3, k0W3⟩ ⟨rfl, rfl, trivial⟩
    rintro J b4 W1 ⟨bW1, sW1, k0W1⟩
    have kW1 := k0W1
    unfold ocs at kW1
    rw [h3] at kW1
    clear bW0 k0W0 kW0 sW0
    (refine Ga ?_)
    refine Lst_cut (α := Bool) (fun b5 => [(1, .pointer (some ⟨bo, 0, none⟩)), (4, .bool b4), (5, .bool b5)]) (fun _ X => Below bo w X ∧ bo ≤ X.heap.size ∧ Blk X bo (ocs o) 47) ?_ ?_
    · (refine Ga ?_)
      (apply Lst_call; (focus rfl); (focus rfl))
      refine (o_none o.l W1).mono ?_
      rintro v W5 ⟨rfl, hW5⟩
      have bW5 := bW1.trans (hW5.mono sW1)
      have k0W5 := k0W1.below hW5 k0W1.lt
      have kW5 := kW1.below hW5 kW1.lt
      have sW5 := Nat.le_trans sW1 hW5.size
      clear bW1 k0W1 kW1 sW1 hW5
      cases decide (o.l = Fo.none') with
      | false =>
        (refine Ga ?_)
        exact cutQ_n false ⟨bW5, sW5, k0W5⟩ ⟨rfl, rfl, rfl, trivial⟩
      | true =>
        (refine Ga ?_)
        (apply Lst_call; (focus rfl); (focus rfl))
        refine (o_none o.r W5).mono ?_
        rintro v W6 ⟨rfl, hW6⟩
        have bW6 := bW5.trans (hW6.mono sW5)
        have k0W6 := k0W5.below hW6 k0W5.lt
        have kW6 := kW5.below hW6 kW5.lt
        have sW6 := Nat.le_trans sW5 hW6.size
        clear bW5 k0W5 kW5 sW5 hW6
        (refine Ga ?_)
        exact cutQ_n _ ⟨bW6, sW6, k0W6⟩ ⟨rfl, rfl, rfl, trivial⟩
    rintro J b5 W4 ⟨bW4, sW4, k0W4⟩
    have kW4 := k0W4
    unfold ocs at kW4
    rw [h3] at kW4
    clear bW1 k0W1 kW1 sW1
    refine W_cut (α := Bool) (fun b6 => [(1, .pointer (some ⟨bo, 0, none⟩)), (4, .bool b4), (5, .bool b5), (6, .bool b6)]) (fun _ X => Below bo w X ∧ bo ≤ X.heap.size ∧ Blk X bo (ocs o) 47) ?_ ?_
    · (refine Ga ?_)
      apply Lst_pu
      · apply P_eqA
        focus rfl
        focus rfl
        focus kernel_rfl
        focus exact anc_eq o.fr ⟨(0, 0), false⟩
        focus rfl
      focus rfl
      generalize decide (o.fr = (⟨(0, 0), false⟩ : Anc)) = e
      cases e with
      | false =>
        (refine Ga ?_)
        exact cutQ_n false ⟨bW4, sW4, k0W4⟩ ⟨rfl, rfl, rfl, rfl, trivial⟩
      | true =>
        (refine Ga ?_)
        apply Lst_pu
        · apply P_eqA
          focus rfl
          focus rfl
          focus kernel_rfl
          focus exact anc_eq o.to ⟨(0, 0), false⟩
          focus rfl
        focus rfl
        generalize decide (o.to = (⟨(0, 0), false⟩ : Anc)) = e
        cases e with
        | false =>
          (refine Ga ?_)
          exact cutQ_n false ⟨bW4, sW4, k0W4⟩ ⟨rfl, rfl, rfl, rfl, trivial⟩
        | true =>
          (refine Ga ?_)
          exact cutQ_n true ⟨bW4, sW4, k0W4⟩ ⟨rfl, rfl, rfl, rfl, trivial⟩
    rintro J b6 W7 ⟨bW7, sW7, k0W7⟩
    have kW7 := k0W7
    unfold ocs at kW7
    rw [h3] at kW7
    clear bW4 k0W4 kW4 sW4
    refine W_cut (α := Bool) (fun b7 => [(1, .pointer (some ⟨bo, 0, none⟩)), (4, .bool b4), (5, .bool b5), (6, .bool b6), (7, .bool b7)]) (fun _ X => Below bo w X ∧ bo ≤ X.heap.size ∧ Blk X bo (ocs o) 47) ?_ ?_
    · by_cases h8 : 1 ≤ o.st
      · skip
        by_cases h8 : o.st ≤ 9007199254740991
        · skip
          (refine Ga ?_)
          exact cutQ_n true ⟨bW7, sW7, k0W7⟩ ⟨rfl, rfl, rfl, rfl, rfl, trivial⟩
        · skip
          (refine Ga ?_)
          exact cutQ_n false ⟨bW7, sW7, k0W7⟩ ⟨rfl, rfl, rfl, rfl, rfl, trivial⟩
      · skip
        (refine Ga ?_)
        exact cutQ_n false ⟨bW7, sW7, k0W7⟩ ⟨rfl, rfl, rfl, rfl, rfl, trivial⟩
    rintro J b7 W8 ⟨bW8, sW8, k0W8⟩
    have kW8 := k0W8
    unfold ocs at kW8
    rw [h3] at kW8
    clear bW7 k0W7 kW7 sW7
    refine W_cut (α := Bool) (fun b8 => [(1, .pointer (some ⟨bo, 0, none⟩)), (4, .bool b4), (5, .bool b5), (6, .bool b6), (7, .bool b7), (8, .bool b8)]) (fun _ X => Below bo w X ∧ bo ≤ X.heap.size ∧ Blk X bo (ocs o) 47) ?_ ?_
    · (refine Ga ?_)
      (apply Lst_call; (focus rfl); (focus rfl))
      refine (Val.r_Check o.v W8).mono ?_
      rintro v W10 ⟨rfl, hW10⟩
      have bW10 := bW8.trans (hW10.mono sW8)
      have k0W10 := k0W8.below hW10 k0W8.lt
      have kW10 := kW8.below hW10 kW8.lt
      have sW10 := Nat.le_trans sW8 hW10.size
      clear bW8 k0W8 kW8 sW8 hW10
      cases okV o.v with
      | false =>
        rw [if_neg Bool.false_ne_true]
        (refine Ga ?_)
        exact cutQ_n false ⟨bW10, sW10, k0W10⟩ ⟨rfl, rfl, rfl, rfl, rfl, rfl, trivial⟩
      | true =>
        rw [if_pos rfl]
        (refine Ga ?_)
        exact cutQ_n true ⟨bW10, sW10, k0W10⟩ ⟨rfl, rfl, rfl, rfl, rfl, rfl, trivial⟩
    rintro J b8 W9 ⟨bW9, sW9, k0W9⟩
    have kW9 := k0W9
    unfold ocs at kW9
    rw [h3] at kW9
    clear bW8 k0W8 kW8 sW8
    (refine Ga ?_)
    refine Lst_cutB (α := Bool) (fun b3 => [(1, .pointer (some ⟨bo, 0, none⟩)), (3, .bool b3)]) (fun _ X => Below bo w X ∧ bo ≤ X.heap.size ∧ Blk X bo (ocs o) 47) ?_ ?_
    · cases b5 with
      | false =>
        (refine Ga ?_)
        exact cutQ_n false ⟨bW9, sW9, k0W9⟩ ⟨rfl, rfl, trivial⟩
      | true =>
        (refine Ga ?_)
        (apply Lst_call; (focus rfl); (focus rfl))
        refine (o_named o.fr.id W9).mono ?_
        rintro v W12 ⟨⟨q, rfl⟩, hW12⟩
        have bW12 := bW9.trans (hW12.mono sW9)
        have k0W12 := k0W9.below hW12 k0W9.lt
        have kW12 := kW9.below hW12 kW9.lt
        have sW12 := Nat.le_trans sW9 hW12.size
        clear bW9 k0W9 kW9 sW9 hW12
        cases q with
        | false =>
          (refine Ga ?_)
          exact cutQ_n false ⟨bW12, sW12, k0W12⟩ ⟨rfl, rfl, trivial⟩
        | true =>
          (refine Ga ?_)
          (apply Lst_call; (focus rfl); (focus rfl))
          refine (o_named o.to.id W12).mono ?_
          rintro v W13 ⟨⟨q, rfl⟩, hW13⟩
          have bW13 := bW12.trans (hW13.mono sW12)
          have k0W13 := k0W12.below hW13 k0W12.lt
          have kW13 := kW12.below hW13 kW12.lt
          have sW13 := Nat.le_trans sW12 hW13.size
          clear bW12 k0W12 kW12 sW12 hW13
          cases q with
          | false =>
            (refine Ga ?_)
            exact cutQ_n false ⟨bW13, sW13, k0W13⟩ ⟨rfl, rfl, trivial⟩
          | true =>
            (refine Ga ?_)
            (apply Lst_call; (focus rfl); (focus rfl))
            refine (o_key o.key hk W13).mono ?_
            rintro v W14 ⟨⟨q, rfl⟩, hW14⟩
            have bW14 := bW13.trans (hW14.mono sW13)
            have k0W14 := k0W13.below hW14 k0W13.lt
            have kW14 := kW13.below hW14 kW13.lt
            have sW14 := Nat.le_trans sW13 hW14.size
            clear bW13 k0W13 kW13 sW13 hW14
            cases q with
            | false =>
              (refine Ga ?_)
              exact cutQ_n false ⟨bW14, sW14, k0W14⟩ ⟨rfl, rfl, trivial⟩
            | true =>
              cases b8 with
              | false =>
                (refine Ga ?_)
                exact cutQ_n false ⟨bW14, sW14, k0W14⟩ ⟨rfl, rfl, trivial⟩
              | true =>
                by_cases h14 : o.v.k ≠ 5
                · skip
                  cases b7 with
                  | false =>
                    (refine Ga ?_)
                    exact cutQ_n false ⟨bW14, sW14, k0W14⟩ ⟨rfl, rfl, trivial⟩
                  | true =>
                    by_cases h14 : o.tx = ⟨#[]⟩
                    · skip
                      (refine Ga ?_)
                      (apply Lst_call; (focus rfl); (focus rfl))
                      refine (o_none o.par W14).mono ?_
                      rintro v W15 ⟨rfl, hW15⟩
                      have bW15 := bW14.trans (hW15.mono sW14)
                      have k0W15 := k0W14.below hW15 k0W14.lt
                      have kW15 := kW14.below hW15 kW14.lt
                      have sW15 := Nat.le_trans sW14 hW15.size
                      clear bW14 k0W14 kW14 sW14 hW15
                      (refine Ga ?_)
                      exact cutQ_n _ ⟨bW15, sW15, k0W15⟩ ⟨rfl, rfl, trivial⟩
                    · skip
                      (refine Ga ?_)
                      exact cutQ_n false ⟨bW14, sW14, k0W14⟩ ⟨rfl, rfl, trivial⟩
                · skip
                  (refine Ga ?_)
                  exact cutQ_n false ⟨bW14, sW14, k0W14⟩ ⟨rfl, rfl, trivial⟩
    rintro J b3 W11 ⟨bW11, sW11, k0W11⟩
    have kW11 := k0W11
    unfold ocs at kW11
    rw [h3] at kW11
    clear bW9 k0W9 kW9 sW9
    cases b3 with
    | false =>
      (refine Ga ?_)
      (apply retQ1; (focus rfl))
      exact ⟨⟨_, rfl⟩, bW11⟩
    | true =>
      (refine Ga ?_)
      (apply Lst_call; (focus rfl); (focus rfl))
      refine (o_names { o with k := 3 } W11).mono ?_
      rintro v Y0 ⟨bn, rfl, hbn, kn, hY0⟩
      have bY0 := bW11.trans (hY0.mono sW11)
      have k0Y0 := k0W11.below hY0 kW11.lt
      have sY0 := Nat.le_trans sW11 hY0.size
      clear bW11 k0W11 kW11 sW11 hY0
      dsimp only at kn
      (refine Ga ?_)
      refine W_loop (α := Nat) (fun i => [(1, .pointer (some ⟨bo, 0, none⟩)), (10, .slice (some ⟨bn, 0, none⟩) 5 5), (11, .int .i64 (i : Int))])
        (fun i X => i ≤ 5 ∧ Below bo w X ∧ bo ≤ X.heap.size ∧ Below Y0.heap.size Y0 X) (fun i _ => 5 - i) 0 ⟨Nat.zero_le _, bY0, sY0, Below.refl _ _⟩ ⟨rfl, rfl, rfl, trivial⟩ ?_
      rintro J i Y ⟨hi, bY, sY, hbY⟩
      have k0Y := k0Y0.below hbY k0Y0.lt
      have kY := k0Y
      unfold ocs at kY
      rw [h3] at kY
      have lY := kY.lt
      have knY := kn.below hbY kn.lt
      by_cases hil : i < 5
      · have hcc : ∃ c k : Nat, Y.cell? ⟨bn, i * 2, none⟩ = some (.int .u64 (c : Int)) ∧ Y.cell? ⟨bn, i * 2 + 1, none⟩ = some (.int .u64 (k : Int)) := by
          rcases (show i = 0 ∨ i = 1 ∨ i = 2 ∨ i = 3 ∨ i = 4 by omega) with rfl | rfl | rfl | rfl | rfl <;> exact ⟨_, _, knY.cell _, knY.cell _⟩
        obtain ⟨c, k, hc0, hc1⟩ := hcc
        (refine Ga ?_)
        by_cases e1 : c = o.id.1
        · by_cases e2 : o.id.2 ≤ k
          · skip
            refine W_drawS 35 (fun Z => Below Y.heap.size Y Z) rfl rfl ?_
            have hS := Below.drew (Below.refl Y.heap.size Y)
            generalize Y.drew = Z at *
            refine S_takeV 0 34 rfl (by kernel_rfl) (by repeat (first | exact retQ_p | apply seqQ_p | apply blkQ_p | apply rndQ_p | apply cutQ_p)) hS ?_
            (refine Qb ?_)
            refine S_takeV 1 33 rfl (by kernel_rfl) (by repeat (first | exact retQ_p | apply seqQ_p | apply blkQ_p | apply rndQ_p | apply cutQ_p)) hS ?_
            (refine Qb ?_)
            refine S_takeV 2 32 rfl (by kernel_rfl) (by repeat (first | exact retQ_p | apply seqQ_p | apply blkQ_p | apply rndQ_p | apply cutQ_p)) hS ?_
            apply Qst_pu
            · apply P_idxm (j := i) (sz := 2)
              focus rfl
              focus rfl
              focus rfl
              focus rfl
              focus rfl
              focus exact hil
            focus rfl
            (refine Qb ?_)
            refine S_takeV 3 31 rfl (by kernel_rfl) (by repeat (first | exact retQ_p | apply seqQ_p | apply blkQ_p | apply rndQ_p | apply cutQ_p)) hS ?_
            (refine Qb ?_)
            refine S_takeV 4 30 rfl (by kernel_rfl) (by repeat (first | exact retQ_p | apply seqQ_p | apply blkQ_p | apply rndQ_p | apply cutQ_p)) hS ?_
            apply Qst_loadc
            focus rfl
            focus rfl
            focus rfl
            focus exact fun A9 hA9 => cell_below hA9 hc0
            focus rfl
            (refine Qb ?_)
            refine S_takeV 5 29 rfl (by kernel_rfl) (by repeat (first | exact retQ_p | apply seqQ_p | apply blkQ_p | apply rndQ_p | apply cutQ_p)) hS ?_
            (refine Qb ?_)
            refine S_takeV 6 28 rfl (by kernel_rfl) (by repeat (first | exact retQ_p | apply seqQ_p | apply blkQ_p | apply rndQ_p | apply cutQ_p)) hS ?_
            (refine Qb ?_)
            refine S_takeV 7 27 rfl (by kernel_rfl) (by repeat (first | exact retQ_p | apply seqQ_p | apply blkQ_p | apply rndQ_p | apply cutQ_p)) hS ?_
            (refine Qb ?_)
            refine S_takeV 8 26 rfl (by kernel_rfl) (by repeat (first | exact retQ_p | apply seqQ_p | apply blkQ_p | apply rndQ_p | apply cutQ_p)) hS ?_
            (refine Qb ?_)
            refine S_takeV 9 25 rfl (by kernel_rfl) (by repeat (first | exact retQ_p | apply seqQ_p | apply blkQ_p | apply rndQ_p | apply cutQ_p)) hS ?_
            (refine Qb ?_)
            refine S_takeV 10 24 rfl (by kernel_rfl) (by repeat (first | exact retQ_p | apply seqQ_p | apply blkQ_p | apply rndQ_p | apply cutQ_p)) hS ?_
            (refine Qb ?_)
            refine S_takeV 11 23 rfl (by kernel_rfl) (by repeat (first | exact retQ_p | apply seqQ_p | apply blkQ_p | apply rndQ_p | apply cutQ_p)) hS ?_
            (refine Qb ?_)
            refine S_takeV 12 22 rfl (by kernel_rfl) (by repeat (first | exact retQ_p | apply seqQ_p | apply blkQ_p | apply rndQ_p | apply cutQ_p)) hS ?_
            apply Qst_guard_t
            focus rfl
            focus rfl
            apply Qst_pu
            · apply P_idxm (j := i) (sz := 2)
              focus rfl
              focus rfl
              focus rfl
              focus rfl
              focus rfl
              focus exact hil
            focus rfl
            (refine Qb ?_)
            refine S_takeV 13 21 rfl (by kernel_rfl) (by repeat (first | exact retQ_p | apply seqQ_p | apply blkQ_p | apply rndQ_p | apply cutQ_p)) hS ?_
            (refine Qb ?_)
            refine S_takeV 14 20 rfl (by kernel_rfl) (by repeat (first | exact retQ_p | apply seqQ_p | apply blkQ_p | apply rndQ_p | apply cutQ_p)) hS ?_
            apply Qst_guard_t
            focus rfl
            focus rfl
            apply Qst_loadc
            focus rfl
            focus rfl
            focus rfl
            focus exact fun A9 hA9 => cell_below hA9 hc1
            focus rfl
            (refine Qb ?_)
            refine S_takeV 15 19 rfl (by kernel_rfl) (by repeat (first | exact retQ_p | apply seqQ_p | apply blkQ_p | apply rndQ_p | apply cutQ_p)) hS ?_
            (refine Qb ?_)
            refine S_takeV 16 18 rfl (by kernel_rfl) (by repeat (first | exact retQ_p | apply seqQ_p | apply blkQ_p | apply rndQ_p | apply cutQ_p)) hS ?_
            (refine Qb ?_)
            refine S_takeV 17 17 rfl (by kernel_rfl) (by repeat (first | exact retQ_p | apply seqQ_p | apply blkQ_p | apply rndQ_p | apply cutQ_p)) hS ?_
            (refine Qb ?_)
            refine S_takeV 18 16 rfl (by kernel_rfl) (by repeat (first | exact retQ_p | apply seqQ_p | apply blkQ_p | apply rndQ_p | apply cutQ_p)) hS ?_
            (refine Qb ?_)
            refine S_takeV 19 15 rfl (by kernel_rfl) (by repeat (first | exact retQ_p | apply seqQ_p | apply blkQ_p | apply rndQ_p | apply cutQ_p)) hS ?_
            (refine Qb ?_)
            refine S_takeV 20 14 rfl (by kernel_rfl) (by repeat (first | exact retQ_p | apply seqQ_p | apply blkQ_p | apply rndQ_p | apply cutQ_p)) hS ?_
            (refine Qb ?_)
            refine S_takeV 21 13 rfl (by kernel_rfl) (by repeat (first | exact retQ_p | apply seqQ_p | apply blkQ_p | apply rndQ_p | apply cutQ_p)) hS ?_
            (refine Qb ?_)
            refine S_takeV 22 12 rfl (by kernel_rfl) (by repeat (first | exact retQ_p | apply seqQ_p | apply blkQ_p | apply rndQ_p | apply cutQ_p)) hS ?_
            (refine Qb ?_)
            refine S_takeV 23 11 rfl (by kernel_rfl) (by repeat (first | exact retQ_p | apply seqQ_p | apply blkQ_p | apply rndQ_p | apply cutQ_p)) hS ?_
            apply Qst_guard_t
            focus rfl
            focus rfl
            apply Qst_pu
            · apply P_idxm (j := i) (sz := 2)
              focus rfl
              focus rfl
              focus rfl
              focus rfl
              focus rfl
              focus exact hil
            focus rfl
            (refine Qb ?_)
            refine S_takeV 24 10 rfl (by kernel_rfl) (by repeat (first | exact retQ_p | apply seqQ_p | apply blkQ_p | apply rndQ_p | apply cutQ_p)) hS ?_
            (refine Qb ?_)
            refine S_takeV 25 9 rfl (by kernel_rfl) (by repeat (first | exact retQ_p | apply seqQ_p | apply blkQ_p | apply rndQ_p | apply cutQ_p)) hS ?_
            apply Qst_guard_t
            focus rfl
            focus rfl
            apply Qst_loadc
            focus rfl
            focus rfl
            focus rfl
            focus exact fun A9 hA9 => cell_below hA9 hc1
            focus rfl
            (refine Qb ?_)
            refine S_takeV 26 8 rfl (by kernel_rfl) (by repeat (first | exact retQ_p | apply seqQ_p | apply blkQ_p | apply rndQ_p | apply cutQ_p)) hS ?_
            (refine Qb ?_)
            refine S_takeV 27 7 rfl (by kernel_rfl) (by repeat (first | exact retQ_p | apply seqQ_p | apply blkQ_p | apply rndQ_p | apply cutQ_p)) hS ?_
            (refine Qb ?_)
            refine S_takeV 28 6 rfl (by kernel_rfl) (by repeat (first | exact retQ_p | apply seqQ_p | apply blkQ_p | apply rndQ_p | apply cutQ_p)) hS ?_
            (refine Qb ?_)
            refine S_takeV 29 5 rfl (by kernel_rfl) (by repeat (first | exact retQ_p | apply seqQ_p | apply blkQ_p | apply rndQ_p | apply cutQ_p)) hS ?_
            (refine Qb ?_)
            refine S_takeV 30 4 rfl (by kernel_rfl) (by repeat (first | exact retQ_p | apply seqQ_p | apply blkQ_p | apply rndQ_p | apply cutQ_p)) hS ?_
            (refine Qb ?_)
            refine S_any [31] 3 rfl (by kernel_rfl) (all1 ?_)
            apply Lst_guard_t
            focus rfl
            focus rfl
            (apply Lst_call; (focus rfl); (focus rfl))
            refine (o_Len { o with k := 3 } rfl Z).mono ?_
            rintro v V ⟨rfl, hV⟩
            apply Lst_nil
            apply rnQ_n
            have hS2 := hS.trans (hV.mono hS.size)
            refine ⟨hS2, ?_⟩
            clear hS hV
            have hS := hS2
            refine S_takeV 32 2 rfl (by kernel_rfl) (by repeat (first | exact retQ_p | apply seqQ_p | apply blkQ_p | apply rndQ_p | apply cutQ_p)) hS ?_
            (refine Qb ?_)
            by_cases e3 : arith .sub .u64 (k : Int) (o.id.2 : Int) < 1
            · skip
              refine S_takeV 33 1 rfl (by kernel_rfl) (by repeat (first | exact retQ_p | apply seqQ_p | apply blkQ_p | apply rndQ_p | apply cutQ_p)) hS ?_
              (refine Qb ?_)
              refine S_takeV 34 0 rfl (by kernel_rfl) (by repeat (first | exact retQ_p | apply seqQ_p | apply blkQ_p | apply rndQ_p | apply cutQ_p)) hS ?_
              (refine Qb ?_)
              refine S_done (by kernel_rfl) ?_
              (refine Ga ?_)
              (apply retQ1; (focus rfl))
              exact ⟨⟨_, rfl⟩, bY.trans (hS.mono sY)⟩
            · skip
              refine S_takeV 33 1 rfl (by kernel_rfl) (by repeat (first | exact retQ_p | apply seqQ_p | apply blkQ_p | apply rndQ_p | apply cutQ_p)) hS ?_
              (refine Qb ?_)
              refine S_takeV 34 0 rfl (by kernel_rfl) (by repeat (first | exact retQ_p | apply seqQ_p | apply blkQ_p | apply rndQ_p | apply cutQ_p)) hS ?_
              (refine Qb ?_)
              refine S_done (by kernel_rfl) ?_
              (refine Ga ?_)
              refine rndQ_n (α := Nat) (i + 1) ⟨hil, bY.trans (hS.mono sY), Nat.le_trans sY hS.size, hbY.trans (hS.mono hbY.size)⟩ ⟨rfl, rfl, ?_, trivial⟩ (by omega)
              exact congrArg (Value.int .i64) (by omega)
          · skip
            refine W_drawS 35 (fun Z => Below Y.heap.size Y Z) rfl rfl ?_
            have hS := Below.drew (Below.refl Y.heap.size Y)
            generalize Y.drew = Z at *
            refine S_takeV 0 34 rfl (by kernel_rfl) (by repeat (first | exact retQ_p | apply seqQ_p | apply blkQ_p | apply rndQ_p | apply cutQ_p)) hS ?_
            (refine Qb ?_)
            refine S_takeV 1 33 rfl (by kernel_rfl) (by repeat (first | exact retQ_p | apply seqQ_p | apply blkQ_p | apply rndQ_p | apply cutQ_p)) hS ?_
            (refine Qb ?_)
            refine S_takeV 2 32 rfl (by kernel_rfl) (by repeat (first | exact retQ_p | apply seqQ_p | apply blkQ_p | apply rndQ_p | apply cutQ_p)) hS ?_
            apply Qst_pu
            · apply P_idxm (j := i) (sz := 2)
              focus rfl
              focus rfl
              focus rfl
              focus rfl
              focus rfl
              focus exact hil
            focus rfl
            (refine Qb ?_)
            refine S_takeV 3 31 rfl (by kernel_rfl) (by repeat (first | exact retQ_p | apply seqQ_p | apply blkQ_p | apply rndQ_p | apply cutQ_p)) hS ?_
            (refine Qb ?_)
            refine S_takeV 4 30 rfl (by kernel_rfl) (by repeat (first | exact retQ_p | apply seqQ_p | apply blkQ_p | apply rndQ_p | apply cutQ_p)) hS ?_
            apply Qst_loadc
            focus rfl
            focus rfl
            focus rfl
            focus exact fun A9 hA9 => cell_below hA9 hc0
            focus rfl
            (refine Qb ?_)
            refine S_takeV 5 29 rfl (by kernel_rfl) (by repeat (first | exact retQ_p | apply seqQ_p | apply blkQ_p | apply rndQ_p | apply cutQ_p)) hS ?_
            (refine Qb ?_)
            refine S_takeV 6 28 rfl (by kernel_rfl) (by repeat (first | exact retQ_p | apply seqQ_p | apply blkQ_p | apply rndQ_p | apply cutQ_p)) hS ?_
            (refine Qb ?_)
            refine S_takeV 7 27 rfl (by kernel_rfl) (by repeat (first | exact retQ_p | apply seqQ_p | apply blkQ_p | apply rndQ_p | apply cutQ_p)) hS ?_
            (refine Qb ?_)
            refine S_takeV 8 26 rfl (by kernel_rfl) (by repeat (first | exact retQ_p | apply seqQ_p | apply blkQ_p | apply rndQ_p | apply cutQ_p)) hS ?_
            (refine Qb ?_)
            refine S_takeV 9 25 rfl (by kernel_rfl) (by repeat (first | exact retQ_p | apply seqQ_p | apply blkQ_p | apply rndQ_p | apply cutQ_p)) hS ?_
            (refine Qb ?_)
            refine S_takeV 10 24 rfl (by kernel_rfl) (by repeat (first | exact retQ_p | apply seqQ_p | apply blkQ_p | apply rndQ_p | apply cutQ_p)) hS ?_
            (refine Qb ?_)
            refine S_takeV 11 23 rfl (by kernel_rfl) (by repeat (first | exact retQ_p | apply seqQ_p | apply blkQ_p | apply rndQ_p | apply cutQ_p)) hS ?_
            (refine Qb ?_)
            refine S_takeV 12 22 rfl (by kernel_rfl) (by repeat (first | exact retQ_p | apply seqQ_p | apply blkQ_p | apply rndQ_p | apply cutQ_p)) hS ?_
            apply Qst_guard_t
            focus rfl
            focus rfl
            apply Qst_pu
            · apply P_idxm (j := i) (sz := 2)
              focus rfl
              focus rfl
              focus rfl
              focus rfl
              focus rfl
              focus exact hil
            focus rfl
            (refine Qb ?_)
            refine S_takeV 13 21 rfl (by kernel_rfl) (by repeat (first | exact retQ_p | apply seqQ_p | apply blkQ_p | apply rndQ_p | apply cutQ_p)) hS ?_
            (refine Qb ?_)
            refine S_takeV 14 20 rfl (by kernel_rfl) (by repeat (first | exact retQ_p | apply seqQ_p | apply blkQ_p | apply rndQ_p | apply cutQ_p)) hS ?_
            apply Qst_guard_t
            focus rfl
            focus rfl
            apply Qst_loadc
            focus rfl
            focus rfl
            focus rfl
            focus exact fun A9 hA9 => cell_below hA9 hc1
            focus rfl
            (refine Qb ?_)
            refine S_takeV 15 19 rfl (by kernel_rfl) (by repeat (first | exact retQ_p | apply seqQ_p | apply blkQ_p | apply rndQ_p | apply cutQ_p)) hS ?_
            (refine Qb ?_)
            refine S_takeV 16 18 rfl (by kernel_rfl) (by repeat (first | exact retQ_p | apply seqQ_p | apply blkQ_p | apply rndQ_p | apply cutQ_p)) hS ?_
            (refine Qb ?_)
            refine S_takeV 17 17 rfl (by kernel_rfl) (by repeat (first | exact retQ_p | apply seqQ_p | apply blkQ_p | apply rndQ_p | apply cutQ_p)) hS ?_
            (refine Qb ?_)
            refine S_takeV 18 16 rfl (by kernel_rfl) (by repeat (first | exact retQ_p | apply seqQ_p | apply blkQ_p | apply rndQ_p | apply cutQ_p)) hS ?_
            (refine Qb ?_)
            refine S_takeV 19 15 rfl (by kernel_rfl) (by repeat (first | exact retQ_p | apply seqQ_p | apply blkQ_p | apply rndQ_p | apply cutQ_p)) hS ?_
            (refine Qb ?_)
            refine S_takeV 20 14 rfl (by kernel_rfl) (by repeat (first | exact retQ_p | apply seqQ_p | apply blkQ_p | apply rndQ_p | apply cutQ_p)) hS ?_
            (refine Qb ?_)
            refine S_takeV 21 13 rfl (by kernel_rfl) (by repeat (first | exact retQ_p | apply seqQ_p | apply blkQ_p | apply rndQ_p | apply cutQ_p)) hS ?_
            (refine Qb ?_)
            refine S_takeV 22 12 rfl (by kernel_rfl) (by repeat (first | exact retQ_p | apply seqQ_p | apply blkQ_p | apply rndQ_p | apply cutQ_p)) hS ?_
            (refine Qb ?_)
            refine S_takeV 23 11 rfl (by kernel_rfl) (by repeat (first | exact retQ_p | apply seqQ_p | apply blkQ_p | apply rndQ_p | apply cutQ_p)) hS ?_
            (refine Qb ?_)
            refine S_takeV 24 10 rfl (by kernel_rfl) (by repeat (first | exact retQ_p | apply seqQ_p | apply blkQ_p | apply rndQ_p | apply cutQ_p)) hS ?_
            (refine Qb ?_)
            refine S_takeV 25 9 rfl (by kernel_rfl) (by repeat (first | exact retQ_p | apply seqQ_p | apply blkQ_p | apply rndQ_p | apply cutQ_p)) hS ?_
            (refine Qb ?_)
            refine S_takeV 26 8 rfl (by kernel_rfl) (by repeat (first | exact retQ_p | apply seqQ_p | apply blkQ_p | apply rndQ_p | apply cutQ_p)) hS ?_
            (refine Qb ?_)
            refine S_takeV 27 7 rfl (by kernel_rfl) (by repeat (first | exact retQ_p | apply seqQ_p | apply blkQ_p | apply rndQ_p | apply cutQ_p)) hS ?_
            (refine Qb ?_)
            refine S_takeV 28 6 rfl (by kernel_rfl) (by repeat (first | exact retQ_p | apply seqQ_p | apply blkQ_p | apply rndQ_p | apply cutQ_p)) hS ?_
            (refine Qb ?_)
            refine S_takeV 29 5 rfl (by kernel_rfl) (by repeat (first | exact retQ_p | apply seqQ_p | apply blkQ_p | apply rndQ_p | apply cutQ_p)) hS ?_
            (refine Qb ?_)
            refine S_takeV 30 4 rfl (by kernel_rfl) (by repeat (first | exact retQ_p | apply seqQ_p | apply blkQ_p | apply rndQ_p | apply cutQ_p)) hS ?_
            (refine Qb ?_)
            refine S_any [31] 3 rfl (by kernel_rfl) (all1 ?_)
            (refine Gf ?_)
            apply rnQ_n
            refine ⟨hS, ?_⟩
            refine S_takeV 32 2 rfl (by kernel_rfl) (by repeat (first | exact retQ_p | apply seqQ_p | apply blkQ_p | apply rndQ_p | apply cutQ_p)) hS ?_
            (refine Qb ?_)
            refine S_takeV 33 1 rfl (by kernel_rfl) (by repeat (first | exact retQ_p | apply seqQ_p | apply blkQ_p | apply rndQ_p | apply cutQ_p)) hS ?_
            (refine Qb ?_)
            refine S_takeV 34 0 rfl (by kernel_rfl) (by repeat (first | exact retQ_p | apply seqQ_p | apply blkQ_p | apply rndQ_p | apply cutQ_p)) hS ?_
            (refine Qb ?_)
            refine S_done (by kernel_rfl) ?_
            (refine Ga ?_)
            refine rndQ_n (α := Nat) (i + 1) ⟨hil, bY.trans (hS.mono sY), Nat.le_trans sY hS.size, hbY.trans (hS.mono hbY.size)⟩ ⟨rfl, rfl, ?_, trivial⟩ (by omega)
            exact congrArg (Value.int .i64) (by omega)
        · skip
          refine W_drawS 35 (fun Z => Below Y.heap.size Y Z) rfl rfl ?_
          have hS := Below.drew (Below.refl Y.heap.size Y)
          generalize Y.drew = Z at *
          refine S_takeV 0 34 rfl (by kernel_rfl) (by repeat (first | exact retQ_p | apply seqQ_p | apply blkQ_p | apply rndQ_p | apply cutQ_p)) hS ?_
          (refine Qb ?_)
          refine S_takeV 1 33 rfl (by kernel_rfl) (by repeat (first | exact retQ_p | apply seqQ_p | apply blkQ_p | apply rndQ_p | apply cutQ_p)) hS ?_
          (refine Qb ?_)
          refine S_takeV 2 32 rfl (by kernel_rfl) (by repeat (first | exact retQ_p | apply seqQ_p | apply blkQ_p | apply rndQ_p | apply cutQ_p)) hS ?_
          apply Qst_pu
          · apply P_idxm (j := i) (sz := 2)
            focus rfl
            focus rfl
            focus rfl
            focus rfl
            focus rfl
            focus exact hil
          focus rfl
          (refine Qb ?_)
          refine S_takeV 3 31 rfl (by kernel_rfl) (by repeat (first | exact retQ_p | apply seqQ_p | apply blkQ_p | apply rndQ_p | apply cutQ_p)) hS ?_
          (refine Qb ?_)
          refine S_takeV 4 30 rfl (by kernel_rfl) (by repeat (first | exact retQ_p | apply seqQ_p | apply blkQ_p | apply rndQ_p | apply cutQ_p)) hS ?_
          apply Qst_loadc
          focus rfl
          focus rfl
          focus rfl
          focus exact fun A9 hA9 => cell_below hA9 hc0
          focus rfl
          (refine Qb ?_)
          refine S_takeV 5 29 rfl (by kernel_rfl) (by repeat (first | exact retQ_p | apply seqQ_p | apply blkQ_p | apply rndQ_p | apply cutQ_p)) hS ?_
          (refine Qb ?_)
          refine S_takeV 6 28 rfl (by kernel_rfl) (by repeat (first | exact retQ_p | apply seqQ_p | apply blkQ_p | apply rndQ_p | apply cutQ_p)) hS ?_
          (refine Qb ?_)
          refine S_takeV 7 27 rfl (by kernel_rfl) (by repeat (first | exact retQ_p | apply seqQ_p | apply blkQ_p | apply rndQ_p | apply cutQ_p)) hS ?_
          (refine Qb ?_)
          refine S_takeV 8 26 rfl (by kernel_rfl) (by repeat (first | exact retQ_p | apply seqQ_p | apply blkQ_p | apply rndQ_p | apply cutQ_p)) hS ?_
          (refine Qb ?_)
          refine S_takeV 9 25 rfl (by kernel_rfl) (by repeat (first | exact retQ_p | apply seqQ_p | apply blkQ_p | apply rndQ_p | apply cutQ_p)) hS ?_
          (refine Qb ?_)
          refine S_takeV 10 24 rfl (by kernel_rfl) (by repeat (first | exact retQ_p | apply seqQ_p | apply blkQ_p | apply rndQ_p | apply cutQ_p)) hS ?_
          (refine Qb ?_)
          refine S_takeV 11 23 rfl (by kernel_rfl) (by repeat (first | exact retQ_p | apply seqQ_p | apply blkQ_p | apply rndQ_p | apply cutQ_p)) hS ?_
          (refine Qb ?_)
          refine S_takeV 12 22 rfl (by kernel_rfl) (by repeat (first | exact retQ_p | apply seqQ_p | apply blkQ_p | apply rndQ_p | apply cutQ_p)) hS ?_
          (refine Qb ?_)
          refine S_takeV 13 21 rfl (by kernel_rfl) (by repeat (first | exact retQ_p | apply seqQ_p | apply blkQ_p | apply rndQ_p | apply cutQ_p)) hS ?_
          (refine Qb ?_)
          refine S_takeV 14 20 rfl (by kernel_rfl) (by repeat (first | exact retQ_p | apply seqQ_p | apply blkQ_p | apply rndQ_p | apply cutQ_p)) hS ?_
          (refine Qb ?_)
          refine S_takeV 15 19 rfl (by kernel_rfl) (by repeat (first | exact retQ_p | apply seqQ_p | apply blkQ_p | apply rndQ_p | apply cutQ_p)) hS ?_
          (refine Qb ?_)
          refine S_takeV 16 18 rfl (by kernel_rfl) (by repeat (first | exact retQ_p | apply seqQ_p | apply blkQ_p | apply rndQ_p | apply cutQ_p)) hS ?_
          (refine Qb ?_)
          refine S_takeV 17 17 rfl (by kernel_rfl) (by repeat (first | exact retQ_p | apply seqQ_p | apply blkQ_p | apply rndQ_p | apply cutQ_p)) hS ?_
          (refine Qb ?_)
          refine S_takeV 18 16 rfl (by kernel_rfl) (by repeat (first | exact retQ_p | apply seqQ_p | apply blkQ_p | apply rndQ_p | apply cutQ_p)) hS ?_
          (refine Qb ?_)
          refine S_takeV 19 15 rfl (by kernel_rfl) (by repeat (first | exact retQ_p | apply seqQ_p | apply blkQ_p | apply rndQ_p | apply cutQ_p)) hS ?_
          (refine Qb ?_)
          refine S_takeV 20 14 rfl (by kernel_rfl) (by repeat (first | exact retQ_p | apply seqQ_p | apply blkQ_p | apply rndQ_p | apply cutQ_p)) hS ?_
          (refine Qb ?_)
          refine S_takeV 21 13 rfl (by kernel_rfl) (by repeat (first | exact retQ_p | apply seqQ_p | apply blkQ_p | apply rndQ_p | apply cutQ_p)) hS ?_
          (refine Qb ?_)
          refine S_takeV 22 12 rfl (by kernel_rfl) (by repeat (first | exact retQ_p | apply seqQ_p | apply blkQ_p | apply rndQ_p | apply cutQ_p)) hS ?_
          (refine Qb ?_)
          refine S_takeV 23 11 rfl (by kernel_rfl) (by repeat (first | exact retQ_p | apply seqQ_p | apply blkQ_p | apply rndQ_p | apply cutQ_p)) hS ?_
          (refine Qb ?_)
          refine S_takeV 24 10 rfl (by kernel_rfl) (by repeat (first | exact retQ_p | apply seqQ_p | apply blkQ_p | apply rndQ_p | apply cutQ_p)) hS ?_
          (refine Qb ?_)
          refine S_takeV 25 9 rfl (by kernel_rfl) (by repeat (first | exact retQ_p | apply seqQ_p | apply blkQ_p | apply rndQ_p | apply cutQ_p)) hS ?_
          (refine Qb ?_)
          refine S_takeV 26 8 rfl (by kernel_rfl) (by repeat (first | exact retQ_p | apply seqQ_p | apply blkQ_p | apply rndQ_p | apply cutQ_p)) hS ?_
          (refine Qb ?_)
          refine S_takeV 27 7 rfl (by kernel_rfl) (by repeat (first | exact retQ_p | apply seqQ_p | apply blkQ_p | apply rndQ_p | apply cutQ_p)) hS ?_
          (refine Qb ?_)
          refine S_takeV 28 6 rfl (by kernel_rfl) (by repeat (first | exact retQ_p | apply seqQ_p | apply blkQ_p | apply rndQ_p | apply cutQ_p)) hS ?_
          (refine Qb ?_)
          refine S_takeV 29 5 rfl (by kernel_rfl) (by repeat (first | exact retQ_p | apply seqQ_p | apply blkQ_p | apply rndQ_p | apply cutQ_p)) hS ?_
          (refine Qb ?_)
          refine S_takeV 30 4 rfl (by kernel_rfl) (by repeat (first | exact retQ_p | apply seqQ_p | apply blkQ_p | apply rndQ_p | apply cutQ_p)) hS ?_
          (refine Qb ?_)
          refine S_any [31] 3 rfl (by kernel_rfl) (all1 ?_)
          (refine Gf ?_)
          apply rnQ_n
          refine ⟨hS, ?_⟩
          refine S_takeV 32 2 rfl (by kernel_rfl) (by repeat (first | exact retQ_p | apply seqQ_p | apply blkQ_p | apply rndQ_p | apply cutQ_p)) hS ?_
          (refine Qb ?_)
          refine S_takeV 33 1 rfl (by kernel_rfl) (by repeat (first | exact retQ_p | apply seqQ_p | apply blkQ_p | apply rndQ_p | apply cutQ_p)) hS ?_
          (refine Qb ?_)
          refine S_takeV 34 0 rfl (by kernel_rfl) (by repeat (first | exact retQ_p | apply seqQ_p | apply blkQ_p | apply rndQ_p | apply cutQ_p)) hS ?_
          (refine Qb ?_)
          refine S_done (by kernel_rfl) ?_
          (refine Ga ?_)
          refine rndQ_n (α := Nat) (i + 1) ⟨hil, bY.trans (hS.mono sY), Nat.le_trans sY hS.size, hbY.trans (hS.mono hbY.size)⟩ ⟨rfl, rfl, ?_, trivial⟩ (by omega)
          exact congrArg (Value.int .i64) (by omega)
      · (refine Ga ?_)
        (apply retQ1; (focus rfl))
        exact ⟨⟨_, rfl⟩, bY⟩
    -- end of the print
end
end Mk
end Go.Proofs.YtmgipnckojopcaaGreat
