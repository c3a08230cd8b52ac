/- The reference's Check of an operation: what it says of a text. -/
import Derived.Test.YtifkedhbelflkaaDoorOqOpA
namespace Go.Proofs.YtifkedhbelflkaaDoor
set_option maxRecDepth 100000
namespace Op
open Go Go.RowKit Sx Tl Val
open Utf (rs tl)
/-- A text that is taken, but for the ids that it names. -/
structure OkP (o : Mo) : Prop where
  pl : (nm o.l && nm o.r) = true
  val : Lib.validD (tl o.tx) = true
  n1 : 1 ≤ (rs (tl o.tx)).length
  n2 : (rs (tl o.tx)).length ≤ 4096
  hi : o.id.2 + (rs (tl o.tx)).length ≤ 9007199254740992
  st : o.st = 0
  v : (decide (o.v.k = 0) && okV o.v) = true
  key : o.key = ⟨#[]⟩
  par : o.par = none'
  sp : (decide (o.fr = ⟨(0, 0), false⟩) && decide (o.til = ⟨(0, 0), false⟩)) = true
def nms (o : Mo) : List Id := [o.l, o.r, o.fr.id, o.til.id, o.par]
def hit (o : Mo) (x : Id) : Prop := x.1 = o.id.1 ∧ o.id.2 ≤ x.2 ∧ arith .sub .u64 (x.2 : Int) (o.id.2 : Int) < (len o : Int)
/-- A text that is taken. -/
structure OkT (o : Mo) : Prop where
  k : o.k = 1
  id : rightId o.id = true
  l : nm o.l = true
  r : nm o.r = true
  val : Lib.validD (tl o.tx) = true
  n1 : 1 ≤ (rs (tl o.tx)).length
  n2 : (rs (tl o.tx)).length ≤ 4096
  hi : o.id.2 + (rs (tl o.tx)).length ≤ 9007199254740992
  st : o.st = 0
  v : o.v = ⟨0, 0, 0, ⟨#[]⟩⟩
  key : o.key = ⟨#[]⟩
  par : o.par = none'
  fr : o.fr = ⟨none', false⟩
  til : o.til = ⟨none', false⟩
  fl : ¬ (o.l.1 = o.id.1 ∧ o.id.2 ≤ o.l.2 ∧ o.l.2 < o.id.2 + (rs (tl o.tx)).length)
  frr : ¬ (o.r.1 = o.id.1 ∧ o.id.2 ≤ o.r.2 ∧ o.r.2 < o.id.2 + (rs (tl o.tx)).length)
theorem nm_hi {k : Id} (h : nm k = true) : k.2 ≤ 9007199254740991 := by
  unfold nm at h
  rcases Bool.or_eq_true _ _ ▸ h with h | h
  · rw [of_decide_eq_true h]
    exact Nat.zero_le _
  · unfold rightId num at h
    simp only [Bool.and_eq_true, decide_eq_true_eq] at h
    exact h.2.2
theorem not_hit {o : Mo} {x : Id} (h1 : o.k = 1) (hx : nm x = true) (h : ¬ hit o x) : ¬ (x.1 = o.id.1 ∧ o.id.2 ≤ x.2 ∧ x.2 < o.id.2 + (rs (tl o.tx)).length) := fun ⟨e1, e2, e3⟩ => h ⟨e1, e2, by
  have hb := nm_hi hx
  have e : arith .sub .u64 (x.2 : Int) (o.id.2 : Int) = (x.2 : Int) - (o.id.2 : Int) := wu64 (by omega) (by omega)
  rw [e]
  unfold len
  rw [if_pos h1]
  omega⟩
theorem zero_v {x : Vl} (h : (decide (x.k = 0) && okV x) = true) : x = ⟨0, 0, 0, ⟨#[]⟩⟩ := by
  obtain ⟨h1, h2⟩ := Bool.and_eq_true _ _ ▸ h
  have h1 := of_decide_eq_true h1
  unfold okV at h2
  rw [if_pos (.inl h1)] at h2
  obtain ⟨k, n, f, s⟩ := x
  simp only [decide_eq_true_eq] at h1 h2
  obtain ⟨e1, e2, e3⟩ := h2
  rw [h1, e1, e2, e3]
theorem okT_of {o : Mo} (hid : rightId o.id = true) (h : OkP o) (h1 : o.k = 1) (hl : ¬ hit o o.l) (hr : ¬ hit o o.r) : OkT o := by
  obtain ⟨p1, p2⟩ := Bool.and_eq_true _ _ ▸ h.pl
  obtain ⟨s1, s2⟩ := Bool.and_eq_true _ _ ▸ h.sp
  exact ⟨h1, hid, p1, p2, h.val, h.n1, h.n2, h.hi, h.st, zero_v h.v, h.key, h.par, of_decide_eq_true s1, of_decide_eq_true s2, not_hit h1 p1 hl, not_hit h1 p2 hr⟩
theorem okT_z {o : Mo} (h : OkT o) : (decide (o.v.k = 0) && okV o.v) = true := by
  rw [h.v]
  rfl
theorem okT_sp {o : Mo} (h : OkT o) : (decide (o.fr = ⟨(0, 0), false⟩) && decide (o.til = ⟨(0, 0), false⟩)) = true := by
  rw [h.fr, h.til]
  rfl
theorem hit_no {o : Mo} {x : Id} (h1 : o.k = 1) (hx : nm x = true) (h : ¬ (x.1 = o.id.1 ∧ o.id.2 ≤ x.2 ∧ x.2 < o.id.2 + (rs (tl o.tx)).length)) : ¬ hit o x := fun ⟨e1, e2, e3⟩ => h ⟨e1, e2, by
  have hb := nm_hi hx
  have e : arith .sub .u64 (x.2 : Int) (o.id.2 : Int) = (x.2 : Int) - (o.id.2 : Int) := wu64 (by omega) (by omega)
  rw [e] at e3
  unfold len at e3
  rw [if_pos h1] at e3
  omega⟩
theorem okT_hit {o : Mo} (h : OkT o) {i : Nat} (hi : i < 5) : ¬ hit o ((nms o).getD i none') := by
  have hc := right_hi h.id
  have hn : ¬ hit o none' := fun ⟨e, _, _⟩ => by
    have e : (0 : Nat) = o.id.1 := e
    omega
  rcases (show i = 0 ∨ i = 1 ∨ i = 2 ∨ i = 3 ∨ i = 4 by omega) with rfl | rfl | rfl | rfl | rfl
  · exact hit_no h.k h.l h.fl
  · exact hit_no h.k h.r h.frr
  · show ¬ hit o o.fr.id
    rw [h.fr]
    exact hn
  · show ¬ hit o o.til.id
    rw [h.til]
    exact hn
  · show ¬ hit o o.par
    rw [h.par]
    exact hn
section
attribute [local irreducible] RnS
attribute [local irreducible] W Lst Qst Pu seqQ blkQ rndQ cutQ retQ Does Enters IntKind.wrap bits sb World.alloc World.putObj Blk
set_option maxHeartbeats 4000000 in
theorem o_Check (o : Mo) (hk : o.key.size ≤ 200) (hsx : o.tx.size ≤ 1000000) (w : World) : Does Tryd.prog 6 #[.agg (ocs o).toArray] w fun v w' => ∃ z, v = .int .i64 z ∧ (z = 0 → rightId o.id = true ∧ (o.k = 1 → OkT o)) ∧ (OkT o → z = 0) ∧ Below w.heap.size w w' := by
  refine Does_of (args := [.agg (ocs o).toArray]) Tryd.func6 (by kernel_rfl) rfl rfl rfl rfl rfl ?_
  unfold ocs
  (refine Ga ?_)
  refine Lst_abs (fun A => Below w.heap.size w A ∧ Blk A w.heap.size (ocs o) 31) ⟨Bel, by unfold ocs; exact (by (repeat (first | assumption | (apply Blk.below (hb := hb1); rotate_left; (focus ((try simp only [Sx.sizes]); omega)); rotate_right) | (apply Blk.below (hb := hb2); rotate_left; (focus ((try simp only [Sx.sizes]); omega)); rotate_right) | (apply Blk.below (hb := hb3); rotate_left; (focus ((try simp only [Sx.sizes]); omega)); rotate_right) | (apply Blk.below (hb := hb4); rotate_left; (focus ((try simp only [Sx.sizes]); omega)); rotate_right) | (apply Blk.below (hb := hb5); rotate_left; (focus ((try simp only [Sx.sizes]); omega)); rotate_right) | (apply Blk.below (hb := hb6); rotate_left; (focus ((try simp only [Sx.sizes]); omega)); rotate_right) | (apply Blk.below (hb := hb7); rotate_left; (focus ((try simp only [Sx.sizes]); omega)); rotate_right) | (apply Blk.below (hb := hb8); rotate_left; (focus ((try simp only [Sx.sizes]); omega)); rotate_right) | (apply Blk.below (hb := hb9); rotate_left; (focus ((try simp only [Sx.sizes]); omega)); rotate_right) | exact Blk.newE (by first | rfl | ((try simp only [Sx.sizes]); first | done | omega)) _ _ | exact Blk.put_same (by (try simp only [Sx.sizes]); first | done | omega) _ _ | (apply Blk.put_ne; (focus omega)) | apply Blk.alloc | apply Blk.drew)); done)⟩ ?_
  rintro A ⟨bA, k0A⟩
  have kA := k0A
  unfold ocs at kA
  have sA := bA.size
  generalize w.heap.size = bo at *
  (apply Lst_call; (focus rfl); (focus rfl))
  refine (r_Right o.id A).mono ?_
  rintro v W0 ⟨rfl, hW0⟩
  have bW0 := bA.trans (hW0.mono sA)
  have k0W0 := k0A.below hW0 kA.lt
  have kW0 := kA.below hW0 kA.lt
  have sW0 := Nat.le_trans sA hW0.size
  clear bA k0A kA sA hW0
  have hlen := len_le o hsx
  cases hid : rightId o.id with
  | false =>
    (refine Ga ?_)
    (apply retQ1; (focus rfl))
    exact ⟨_, rfl, fun h => absurd h (by decide), fun hT => absurd (hid.symm.trans hT.id) (by decide), bW0⟩
  | true =>
    have hclk := right_hi hid
    (refine Ga ?_)
    refine Lst_cut (α := Bool) (fun b4 => [(1, .pointer (some ⟨bo, 0, none⟩)), (3, .bool false), (4, .bool b4)]) (fun b4 X => b4 = (nm o.l && nm o.r) ∧ Below bo w X ∧ bo ≤ X.heap.size ∧ Blk X bo (ocs o) 31) ?_ ?_
    · (refine Ga ?_)
      (apply Lst_call; (focus rfl); (focus rfl))
      refine (o_named o.l W0).mono ?_
      rintro v W2 ⟨rfl, hW2⟩
      have bW2 := bW0.trans (hW2.mono sW0)
      have k0W2 := k0W0.below hW2 k0W0.lt
      have kW2 := kW0.below hW2 kW0.lt
      have sW2 := Nat.le_trans sW0 hW2.size
      clear bW0 k0W0 kW0 sW0 hW2
      cases c1 : nm o.l with
      | false =>
        (refine Ga ?_)
        exact cutQ_n false ⟨rfl, bW2, sW2, k0W2⟩ ⟨rfl, rfl, rfl, trivial⟩
      | true =>
        (refine Ga ?_)
        (apply Lst_call; (focus rfl); (focus rfl))
        refine (o_named o.r W2).mono ?_
        rintro v W3 ⟨rfl, hW3⟩
        have bW3 := bW2.trans (hW3.mono sW2)
        have k0W3 := k0W2.below hW3 k0W2.lt
        have kW3 := kW2.below hW3 kW2.lt
        have sW3 := Nat.le_trans sW2 hW3.size
        clear bW2 k0W2 kW2 sW2 hW3
        cases c2 : nm o.r with
        | false =>
          (refine Ga ?_)
          exact cutQ_n false ⟨rfl, bW3, sW3, k0W3⟩ ⟨rfl, rfl, rfl, trivial⟩
        | true =>
          (refine Ga ?_)
          exact cutQ_n true ⟨rfl, bW3, sW3, k0W3⟩ ⟨rfl, rfl, rfl, trivial⟩
    rintro J b4 W1 ⟨eb4, bW1, sW1, k0W1⟩
    have kW1 := k0W1
    unfold ocs at kW1
    clear bW0 k0W0 kW0 sW0
    (refine Ga ?_)
    refine Lst_cut (α := Bool) (fun b5 => [(1, .pointer (some ⟨bo, 0, none⟩)), (3, .bool false), (4, .bool b4), (5, .bool b5)]) (fun b5 X => True ∧ Below bo w X ∧ bo ≤ X.heap.size ∧ Blk X bo (ocs o) 31) ?_ ?_
    · (refine Ga ?_)
      (apply Lst_call; (focus rfl); (focus rfl))
      refine (o_none o.l W1).mono ?_
      rintro v W5 ⟨rfl, hW5⟩
      have bW5 := bW1.trans (hW5.mono sW1)
      have k0W5 := k0W1.below hW5 k0W1.lt
      have kW5 := kW1.below hW5 kW1.lt
      have sW5 := Nat.le_trans sW1 hW5.size
      clear bW1 k0W1 kW1 sW1 hW5
      cases c1 : decide (o.l = none') with
      | false =>
        (refine Ga ?_)
        exact cutQ_n false ⟨trivial, bW5, sW5, k0W5⟩ ⟨rfl, rfl, rfl, rfl, trivial⟩
      | true =>
        (refine Ga ?_)
        (apply Lst_call; (focus rfl); (focus rfl))
        refine (o_none o.r W5).mono ?_
        rintro v W6 ⟨rfl, hW6⟩
        have bW6 := bW5.trans (hW6.mono sW5)
        have k0W6 := k0W5.below hW6 k0W5.lt
        have kW6 := kW5.below hW6 kW5.lt
        have sW6 := Nat.le_trans sW5 hW6.size
        clear bW5 k0W5 kW5 sW5 hW6
        cases c2 : decide (o.r = none') with
        | false =>
          (refine Ga ?_)
          exact cutQ_n false ⟨trivial, bW6, sW6, k0W6⟩ ⟨rfl, rfl, rfl, rfl, trivial⟩
        | true =>
          (refine Ga ?_)
          exact cutQ_n true ⟨trivial, bW6, sW6, k0W6⟩ ⟨rfl, rfl, rfl, rfl, trivial⟩
    rintro J b5 W4 ⟨eb5, bW4, sW4, k0W4⟩
    have kW4 := k0W4
    unfold ocs at kW4
    clear bW1 k0W1 kW1 sW1
    refine W_cut (α := Bool) (fun b6 => [(1, .pointer (some ⟨bo, 0, none⟩)), (3, .bool false), (4, .bool b4), (5, .bool b5), (6, .bool b6)]) (fun b6 X => b6 = (decide (o.fr = ⟨(0, 0), false⟩) && decide (o.til = ⟨(0, 0), false⟩)) ∧ Below bo w X ∧ bo ≤ X.heap.size ∧ Blk X bo (ocs o) 31) ?_ ?_
    · (refine Ga ?_)
      by_cases c1 : o.fr = ⟨(0, 0), false⟩
      · skip
        apply Lst_pu
        · apply P_eqA
          focus rfl
          focus rfl
          focus kernel_rfl
          focus exact (by have := anc_eq o.fr ⟨(0, 0), false⟩; rw [decide_eq_true c1] at this; exact this)
          focus rfl
        focus rfl
        (refine Ga ?_)
        by_cases c2 : o.til = ⟨(0, 0), false⟩
        · skip
          apply Lst_pu
          · apply P_eqA
            focus rfl
            focus rfl
            focus kernel_rfl
            focus exact (by have := anc_eq o.til ⟨(0, 0), false⟩; rw [decide_eq_true c2] at this; exact this)
            focus rfl
          focus rfl
          (refine Ga ?_)
          exact cutQ_n true ⟨by rw [decide_eq_true c1, decide_eq_true c2]; rfl, bW4, sW4, k0W4⟩ ⟨rfl, rfl, rfl, rfl, rfl, trivial⟩
        · skip
          apply Lst_pu
          · apply P_eqA
            focus rfl
            focus rfl
            focus kernel_rfl
            focus exact (by have := anc_eq o.til ⟨(0, 0), false⟩; rw [decide_eq_false c2] at this; exact this)
            focus rfl
          focus rfl
          (refine Ga ?_)
          exact cutQ_n false ⟨by rw [decide_eq_false c2, Bool.and_false], bW4, sW4, k0W4⟩ ⟨rfl, rfl, rfl, rfl, rfl, trivial⟩
      · skip
        apply Lst_pu
        · apply P_eqA
          focus rfl
          focus rfl
          focus kernel_rfl
          focus exact (by have := anc_eq o.fr ⟨(0, 0), false⟩; rw [decide_eq_false c1] at this; exact this)
          focus rfl
        focus rfl
        (refine Ga ?_)
        exact cutQ_n false ⟨by rw [decide_eq_false c1]; rfl, bW4, sW4, k0W4⟩ ⟨rfl, rfl, rfl, rfl, rfl, trivial⟩
    rintro J b6 W7 ⟨eb6, bW7, sW7, k0W7⟩
    have kW7 := k0W7
    unfold ocs at kW7
    clear bW4 k0W4 kW4 sW4
    refine W_cut (α := Bool) (fun b7 => [(1, .pointer (some ⟨bo, 0, none⟩)), (3, .bool false), (4, .bool b4), (5, .bool b5), (6, .bool b6), (7, .bool b7)]) (fun b7 X => True ∧ Below bo w X ∧ bo ≤ X.heap.size ∧ Blk X bo (ocs o) 31) ?_ ?_
    · by_cases c1 : 1 ≤ o.st
      · skip
        by_cases c2 : o.st ≤ 9007199254740991
        · skip
          (refine Ga ?_)
          exact cutQ_n true ⟨trivial, bW7, sW7, k0W7⟩ ⟨rfl, rfl, rfl, rfl, rfl, rfl, trivial⟩
        · skip
          (refine Ga ?_)
          exact cutQ_n false ⟨trivial, bW7, sW7, k0W7⟩ ⟨rfl, rfl, rfl, rfl, rfl, rfl, trivial⟩
      · skip
        (refine Ga ?_)
        exact cutQ_n false ⟨trivial, bW7, sW7, k0W7⟩ ⟨rfl, rfl, rfl, rfl, rfl, rfl, trivial⟩
    rintro J b7 W8 ⟨eb7, bW8, sW8, k0W8⟩
    have kW8 := k0W8
    unfold ocs at kW8
    clear bW7 k0W7 kW7 sW7
    refine W_cut (α := Bool) (fun b8 => [(1, .pointer (some ⟨bo, 0, none⟩)), (3, .bool false), (4, .bool b4), (5, .bool b5), (6, .bool b6), (7, .bool b7), (8, .bool b8)]) (fun b8 X => True ∧ Below bo w X ∧ bo ≤ X.heap.size ∧ Blk X bo (ocs o) 31) ?_ ?_
    · (refine Ga ?_)
      (apply Lst_call; (focus rfl); (focus rfl))
      refine (Val.r_Check o.v W8).mono ?_
      rintro v W10 ⟨rfl, hW10⟩
      have bW10 := bW8.trans (hW10.mono sW8)
      have k0W10 := k0W8.below hW10 k0W8.lt
      have kW10 := kW8.below hW10 kW8.lt
      have sW10 := Nat.le_trans sW8 hW10.size
      clear bW8 k0W8 kW8 sW8 hW10
      cases c1 : okV o.v with
      | false =>
        rw [if_neg Bool.false_ne_true]
        (refine Ga ?_)
        exact cutQ_n false ⟨trivial, bW10, sW10, k0W10⟩ ⟨rfl, rfl, rfl, rfl, rfl, rfl, rfl, trivial⟩
      | true =>
        rw [if_pos rfl]
        (refine Ga ?_)
        exact cutQ_n true ⟨trivial, bW10, sW10, k0W10⟩ ⟨rfl, rfl, rfl, rfl, rfl, rfl, rfl, trivial⟩
    rintro J b8 W9 ⟨eb8, bW9, sW9, k0W9⟩
    have kW9 := k0W9
    unfold ocs at kW9
    clear bW8 k0W8 kW8 sW8
    refine W_cut (α := Bool) (fun b3 => [(1, .pointer (some ⟨bo, 0, none⟩)), (3, .bool b3)]) (fun b3 X => ((b3 = true → o.k = 1 → OkP o) ∧ (OkT o → b3 = true)) ∧ Below bo w X ∧ bo ≤ X.heap.size ∧ Blk X bo (ocs o) 31) ?_ ?_
    · by_cases z1 : o.k = 1
      · (refine Ga ?_)
        (apply Lst_call; (focus rfl); (focus rfl))
        refine (Utf.r_Len o.tx W9 hsx).mono ?_
        rintro v W12 ⟨rfl, hW12⟩
        have bW12 := bW9.trans (hW12.mono sW9)
        have k0W12 := k0W9.below hW12 k0W9.lt
        have kW12 := kW9.below hW12 kW9.lt
        have sW12 := Nat.le_trans sW9 hW12.size
        clear bW9 k0W9 kW9 sW9 hW12
        cases b4 with
        | false =>
          (refine Ga ?_)
          exact cutQ_n false ⟨⟨fun h => (by cases h), fun hT => absurd (eb4.trans (by rw [hT.l, hT.r, Bool.and_self])) (by decide)⟩, bW12, sW12, k0W12⟩ ⟨rfl, rfl, trivial⟩
        | true =>
          (refine Ga ?_)
          (apply Lst_call; (focus rfl); (focus rfl))
          refine (Utf.r_Check o.tx W12 hsx).mono ?_
          rintro v W13 ⟨rfl, hW13⟩
          have bW13 := bW12.trans (hW13.mono sW12)
          have k0W13 := k0W12.below hW13 k0W12.lt
          have kW13 := kW12.below hW13 kW12.lt
          have sW13 := Nat.le_trans sW12 hW13.size
          clear bW12 k0W12 kW12 sW12 hW13
          cases x2 : Lib.validD (tl o.tx) with
          | false =>
            (refine Ga ?_)
            exact cutQ_n false ⟨⟨fun h => (by cases h), fun hT => absurd (x2.symm.trans hT.val) (by decide)⟩, bW13, sW13, k0W13⟩ ⟨rfl, rfl, trivial⟩
          | true =>
            by_cases x3 : 1 ≤ (rs (tl o.tx)).length
            · skip
              by_cases x4 : (rs (tl o.tx)).length ≤ 4096
              · skip
                by_cases x5 : o.id.2 + (rs (tl o.tx)).length ≤ 9007199254740992
                · skip
                  by_cases x6 : o.st = 0
                  · skip
                    (refine Ga ?_)
                    (apply Lst_call; (focus rfl); (focus rfl))
                    refine (o_zero o.v W13).mono ?_
                    rintro v W14 ⟨rfl, hW14⟩
                    have bW14 := bW13.trans (hW14.mono sW13)
                    have k0W14 := k0W13.below hW14 k0W13.lt
                    have kW14 := kW13.below hW14 kW13.lt
                    have sW14 := Nat.le_trans sW13 hW14.size
                    clear bW13 k0W13 kW13 sW13 hW14
                    cases x7 : (decide (o.v.k = 0) && okV o.v) with
                    | false =>
                      (refine Ga ?_)
                      exact cutQ_n false ⟨⟨fun h => (by cases h), fun hT => absurd (x7.symm.trans (okT_z hT)) (by decide)⟩, bW14, sW14, k0W14⟩ ⟨rfl, rfl, trivial⟩
                    | true =>
                      by_cases x8 : o.key = ⟨#[]⟩
                      · skip
                        (refine Ga ?_)
                        (apply Lst_call; (focus rfl); (focus rfl))
                        refine (o_none o.par W14).mono ?_
                        rintro v W15 ⟨rfl, hW15⟩
                        have bW15 := bW14.trans (hW15.mono sW14)
                        have k0W15 := k0W14.below hW15 k0W14.lt
                        have kW15 := kW14.below hW15 kW14.lt
                        have sW15 := Nat.le_trans sW14 hW15.size
                        clear bW14 k0W14 kW14 sW14 hW15
                        cases x9 : decide (o.par = none') with
                        | false =>
                          (refine Ga ?_)
                          exact cutQ_n false ⟨⟨fun h => (by cases h), fun hT => absurd (x9.symm.trans (decide_eq_true hT.par)) (by decide)⟩, bW15, sW15, k0W15⟩ ⟨rfl, rfl, trivial⟩
                        | true =>
                          cases b6 with
                          | false =>
                            (refine Ga ?_)
                            exact cutQ_n false ⟨⟨fun h => (by cases h), fun hT => absurd (eb6.trans (okT_sp hT)) (by decide)⟩, bW15, sW15, k0W15⟩ ⟨rfl, rfl, trivial⟩
                          | true =>
                            (refine Ga ?_)
                            exact cutQ_n true ⟨⟨fun _ _ => ⟨eb4.symm, x2, x3, x4, x5, x6, x7, x8, of_decide_eq_true x9, eb6.symm⟩, fun _ => rfl⟩, bW15, sW15, k0W15⟩ ⟨rfl, rfl, trivial⟩
                      · skip
                        (refine Ga ?_)
                        exact cutQ_n false ⟨⟨fun h => (by cases h), fun hT => absurd hT.key x8⟩, bW14, sW14, k0W14⟩ ⟨rfl, rfl, trivial⟩
                  · skip
                    (refine Ga ?_)
                    exact cutQ_n false ⟨⟨fun h => (by cases h), fun hT => absurd hT.st x6⟩, bW13, sW13, k0W13⟩ ⟨rfl, rfl, trivial⟩
                · skip
                  (refine Ga ?_)
                  exact cutQ_n false ⟨⟨fun h => (by cases h), fun hT => absurd hT.hi x5⟩, bW13, sW13, k0W13⟩ ⟨rfl, rfl, trivial⟩
              · skip
                (refine Ga ?_)
                exact cutQ_n false ⟨⟨fun h => (by cases h), fun hT => absurd hT.n2 x4⟩, bW13, sW13, k0W13⟩ ⟨rfl, rfl, trivial⟩
            · skip
              (refine Ga ?_)
              exact cutQ_n false ⟨⟨fun h => (by cases h), fun hT => absurd hT.n1 x3⟩, bW13, sW13, k0W13⟩ ⟨rfl, rfl, trivial⟩
      · by_cases z2 : o.k = 2
        · skip
          cases b4 with
          | false =>
            (refine Ga ?_)
            exact cutQ_n false ⟨⟨fun h => (by cases h), fun hT => absurd hT.k z1⟩, bW9, sW9, k0W9⟩ ⟨rfl, rfl, trivial⟩
          | true =>
            cases b8 with
            | false =>
              (refine Ga ?_)
              exact cutQ_n false ⟨⟨fun h => (by cases h), fun hT => absurd hT.k z1⟩, bW9, sW9, k0W9⟩ ⟨rfl, rfl, trivial⟩
            | true =>
              by_cases x3 : o.v.k ≠ 5
              · skip
                by_cases x4 : o.st = 0
                · skip
                  by_cases x5 : o.tx = ⟨#[]⟩
                  · skip
                    by_cases x6 : o.key = ⟨#[]⟩
                    · skip
                      (refine Ga ?_)
                      (apply Lst_call; (focus rfl); (focus rfl))
                      refine (o_none o.par W9).mono ?_
                      rintro v W16 ⟨rfl, hW16⟩
                      have bW16 := bW9.trans (hW16.mono sW9)
                      have k0W16 := k0W9.below hW16 k0W9.lt
                      have kW16 := kW9.below hW16 kW9.lt
                      have sW16 := Nat.le_trans sW9 hW16.size
                      clear bW9 k0W9 kW9 sW9 hW16
                      cases x7 : decide (o.par = none') with
                      | false =>
                        (refine Ga ?_)
                        exact cutQ_n false ⟨⟨fun h => (by cases h), fun hT => absurd hT.k z1⟩, bW16, sW16, k0W16⟩ ⟨rfl, rfl, trivial⟩
                      | true =>
                        cases b6 with
                        | false =>
                          (refine Ga ?_)
                          exact cutQ_n false ⟨⟨fun h => (by cases h), fun hT => absurd hT.k z1⟩, bW16, sW16, k0W16⟩ ⟨rfl, rfl, trivial⟩
                        | true =>
                          (refine Ga ?_)
                          exact cutQ_n true ⟨⟨fun _ h => absurd h z1, fun hT => absurd hT.k z1⟩, bW16, sW16, k0W16⟩ ⟨rfl, rfl, trivial⟩
                    · skip
                      (refine Ga ?_)
                      exact cutQ_n false ⟨⟨fun h => (by cases h), fun hT => absurd hT.k z1⟩, bW9, sW9, k0W9⟩ ⟨rfl, rfl, trivial⟩
                  · skip
                    (refine Ga ?_)
                    exact cutQ_n false ⟨⟨fun h => (by cases h), fun hT => absurd hT.k z1⟩, bW9, sW9, k0W9⟩ ⟨rfl, rfl, trivial⟩
                · skip
                  (refine Ga ?_)
                  exact cutQ_n false ⟨⟨fun h => (by cases h), fun hT => absurd hT.k z1⟩, bW9, sW9, k0W9⟩ ⟨rfl, rfl, trivial⟩
              · skip
                (refine Ga ?_)
                exact cutQ_n false ⟨⟨fun h => (by cases h), fun hT => absurd hT.k z1⟩, bW9, sW9, k0W9⟩ ⟨rfl, rfl, trivial⟩
        · by_cases z3 : o.k = 3
          · skip
            cases b5 with
            | false =>
              (refine Ga ?_)
              exact cutQ_n false ⟨⟨fun h => (by cases h), fun hT => absurd hT.k z1⟩, bW9, sW9, k0W9⟩ ⟨rfl, rfl, trivial⟩
            | true =>
              (refine Ga ?_)
              (apply Lst_call; (focus rfl); (focus rfl))
              refine (o_named o.fr.id W9).mono ?_
              rintro v W17 ⟨rfl, hW17⟩
              have bW17 := bW9.trans (hW17.mono sW9)
              have k0W17 := k0W9.below hW17 k0W9.lt
              have kW17 := kW9.below hW17 kW9.lt
              have sW17 := Nat.le_trans sW9 hW17.size
              clear bW9 k0W9 kW9 sW9 hW17
              cases x2 : nm o.fr.id with
              | false =>
                (refine Ga ?_)
                exact cutQ_n false ⟨⟨fun h => (by cases h), fun hT => absurd hT.k z1⟩, bW17, sW17, k0W17⟩ ⟨rfl, rfl, trivial⟩
              | true =>
                (refine Ga ?_)
                (apply Lst_call; (focus rfl); (focus rfl))
                refine (o_named o.til.id W17).mono ?_
                rintro v W18 ⟨rfl, hW18⟩
                have bW18 := bW17.trans (hW18.mono sW17)
                have k0W18 := k0W17.below hW18 k0W17.lt
                have kW18 := kW17.below hW18 kW17.lt
                have sW18 := Nat.le_trans sW17 hW18.size
                clear bW17 k0W17 kW17 sW17 hW18
                cases x3 : nm o.til.id with
                | false =>
                  (refine Ga ?_)
                  exact cutQ_n false ⟨⟨fun h => (by cases h), fun hT => absurd hT.k z1⟩, bW18, sW18, k0W18⟩ ⟨rfl, rfl, trivial⟩
                | true =>
                  (refine Ga ?_)
                  (apply Lst_call; (focus rfl); (focus rfl))
                  refine (o_key o.key hk W18).mono ?_
                  rintro v W19 ⟨rfl, hW19⟩
                  have bW19 := bW18.trans (hW19.mono sW18)
                  have k0W19 := k0W18.below hW19 k0W18.lt
                  have kW19 := kW18.below hW19 kW18.lt
                  have sW19 := Nat.le_trans sW18 hW19.size
                  clear bW18 k0W18 kW18 sW18 hW19
                  cases x4 : keyOk o.key with
                  | false =>
                    (refine Ga ?_)
                    exact cutQ_n false ⟨⟨fun h => (by cases h), fun hT => absurd hT.k z1⟩, bW19, sW19, k0W19⟩ ⟨rfl, rfl, trivial⟩
                  | true =>
                    cases b8 with
                    | false =>
                      (refine Ga ?_)
                      exact cutQ_n false ⟨⟨fun h => (by cases h), fun hT => absurd hT.k z1⟩, bW19, sW19, k0W19⟩ ⟨rfl, rfl, trivial⟩
                    | true =>
                      by_cases x6 : o.v.k ≠ 5
                      · skip
                        cases b7 with
                        | false =>
                          (refine Ga ?_)
                          exact cutQ_n false ⟨⟨fun h => (by cases h), fun hT => absurd hT.k z1⟩, bW19, sW19, k0W19⟩ ⟨rfl, rfl, trivial⟩
                        | true =>
                          by_cases x8 : o.tx = ⟨#[]⟩
                          · skip
                            (refine Ga ?_)
                            (apply Lst_call; (focus rfl); (focus rfl))
                            refine (o_none o.par W19).mono ?_
                            rintro v W20 ⟨rfl, hW20⟩
                            have bW20 := bW19.trans (hW20.mono sW19)
                            have k0W20 := k0W19.below hW20 k0W19.lt
                            have kW20 := kW19.below hW20 kW19.lt
                            have sW20 := Nat.le_trans sW19 hW20.size
                            clear bW19 k0W19 kW19 sW19 hW20
                            cases x9 : decide (o.par = none') with
                            | false =>
                              (refine Ga ?_)
                              exact cutQ_n false ⟨⟨fun h => (by cases h), fun hT => absurd hT.k z1⟩, bW20, sW20, k0W20⟩ ⟨rfl, rfl, trivial⟩
                            | true =>
                              (refine Ga ?_)
                              exact cutQ_n true ⟨⟨fun _ h => absurd h z1, fun hT => absurd hT.k z1⟩, bW20, sW20, k0W20⟩ ⟨rfl, rfl, trivial⟩
                          · skip
                            (refine Ga ?_)
                            exact cutQ_n false ⟨⟨fun h => (by cases h), fun hT => absurd hT.k z1⟩, bW19, sW19, k0W19⟩ ⟨rfl, rfl, trivial⟩
                      · skip
                        (refine Ga ?_)
                        exact cutQ_n false ⟨⟨fun h => (by cases h), fun hT => absurd hT.k z1⟩, bW19, sW19, k0W19⟩ ⟨rfl, rfl, trivial⟩
          · by_cases z4 : o.k = 4
            · skip
              cases b5 with
              | false =>
                (refine Ga ?_)
                exact cutQ_n false ⟨⟨fun h => (by cases h), fun hT => absurd hT.k z1⟩, bW9, sW9, k0W9⟩ ⟨rfl, rfl, trivial⟩
              | true =>
                cases b6 with
                | false =>
                  (refine Ga ?_)
                  exact cutQ_n false ⟨⟨fun h => (by cases h), fun hT => absurd hT.k z1⟩, bW9, sW9, k0W9⟩ ⟨rfl, rfl, trivial⟩
                | true =>
                  (refine Ga ?_)
                  (apply Lst_call; (focus rfl); (focus rfl))
                  refine (o_named o.par W9).mono ?_
                  rintro v W21 ⟨rfl, hW21⟩
                  have bW21 := bW9.trans (hW21.mono sW9)
                  have k0W21 := k0W9.below hW21 k0W9.lt
                  have kW21 := kW9.below hW21 kW9.lt
                  have sW21 := Nat.le_trans sW9 hW21.size
                  clear bW9 k0W9 kW9 sW9 hW21
                  cases x3 : nm o.par with
                  | false =>
                    (refine Ga ?_)
                    exact cutQ_n false ⟨⟨fun h => (by cases h), fun hT => absurd hT.k z1⟩, bW21, sW21, k0W21⟩ ⟨rfl, rfl, trivial⟩
                  | true =>
                    (refine Ga ?_)
                    (apply Lst_call; (focus rfl); (focus rfl))
                    refine (o_key o.key hk W21).mono ?_
                    rintro v W22 ⟨rfl, hW22⟩
                    have bW22 := bW21.trans (hW22.mono sW21)
                    have k0W22 := k0W21.below hW22 k0W21.lt
                    have kW22 := kW21.below hW22 kW21.lt
                    have sW22 := Nat.le_trans sW21 hW22.size
                    clear bW21 k0W21 kW21 sW21 hW22
                    cases x4 : keyOk o.key with
                    | false =>
                      (refine Ga ?_)
                      exact cutQ_n false ⟨⟨fun h => (by cases h), fun hT => absurd hT.k z1⟩, bW22, sW22, k0W22⟩ ⟨rfl, rfl, trivial⟩
                    | true =>
                      cases b8 with
                      | false =>
                        (refine Ga ?_)
                        exact cutQ_n false ⟨⟨fun h => (by cases h), fun hT => absurd hT.k z1⟩, bW22, sW22, k0W22⟩ ⟨rfl, rfl, trivial⟩
                      | true =>
                        cases b7 with
                        | false =>
                          (refine Ga ?_)
                          exact cutQ_n false ⟨⟨fun h => (by cases h), fun hT => absurd hT.k z1⟩, bW22, sW22, k0W22⟩ ⟨rfl, rfl, trivial⟩
                        | true =>
                          by_cases x7 : o.tx = ⟨#[]⟩
                          · skip
                            (refine Ga ?_)
                            exact cutQ_n true ⟨⟨fun _ h => absurd h z1, fun hT => absurd hT.k z1⟩, bW22, sW22, k0W22⟩ ⟨rfl, rfl, trivial⟩
                          · skip
                            (refine Ga ?_)
                            exact cutQ_n false ⟨⟨fun h => (by cases h), fun hT => absurd hT.k z1⟩, bW22, sW22, k0W22⟩ ⟨rfl, rfl, trivial⟩
            · skip
              (refine Ga ?_)
              exact cutQ_n false ⟨⟨fun h => (by cases h), fun hT => absurd hT.k z1⟩, bW9, sW9, k0W9⟩ ⟨rfl, rfl, trivial⟩
    rintro J b3 W11 ⟨eb3, bW11, sW11, k0W11⟩
    have kW11 := k0W11
    unfold ocs at kW11
    clear bW9 k0W9 kW9 sW9
    cases b3 with
    | false =>
      (refine Ga ?_)
      (apply retQ1; (focus rfl))
      exact ⟨_, rfl, fun h => absurd h (by decide), fun hT => absurd (eb3.2 hT) (by decide), bW11⟩
    | true =>
      (refine Ga ?_)
      (apply Lst_call; (focus rfl); (focus rfl))
      refine (o_names o W11).mono ?_
      rintro v Y0 ⟨bn, rfl, hbn, kn, hY0⟩
      have bY0 := bW11.trans (hY0.mono sW11)
      have k0Y0 := k0W11.below hY0 kW11.lt
      have sY0 := Nat.le_trans sW11 hY0.size
      clear bW11 k0W11 kW11 sW11 hY0
      (refine Ga ?_)
      refine W_loop (α := Nat) (fun i => [(1, .pointer (some ⟨bo, 0, none⟩)), (10, .slice (some ⟨bn, 0, none⟩) 5 5), (11, .int .i64 (i : Int))])
        (fun i X => i ≤ 5 ∧ Below bo w X ∧ bo ≤ X.heap.size ∧ Below Y0.heap.size Y0 X ∧ ∀ j, j < i → ¬ hit o ((nms o).getD j none')) (fun i _ => 5 - i) 0 ⟨Nat.zero_le _, bY0, sY0, Below.refl _ _, fun j h => absurd h (Nat.not_lt_zero _)⟩ ⟨rfl, rfl, rfl, trivial⟩ ?_
      rintro J i Y ⟨hi, bY, sY, hbY, hno⟩
      have k0Y := k0Y0.below hbY k0Y0.lt
      have kY := k0Y
      unfold ocs at kY
      have lY := kY.lt
      have knY := kn.below hbY kn.lt
      by_cases hil : i < 5
      · have hcc : ∃ c k : Nat, (nms o).getD i none' = (c, k) ∧ Y.cell? ⟨bn, i * 2, none⟩ = some (.int .u64 (c : Int)) ∧ Y.cell? ⟨bn, i * 2 + 1, none⟩ = some (.int .u64 (k : Int)) := by
          rcases (show i = 0 ∨ i = 1 ∨ i = 2 ∨ i = 3 ∨ i = 4 by omega) with rfl | rfl | rfl | rfl | rfl <;> exact ⟨_, _, rfl, knY.cell _, knY.cell _⟩
        obtain ⟨c, k, hck, hc0, hc1⟩ := hcc
        (refine Ga ?_)
        by_cases e1 : c = o.id.1
        · by_cases e2 : o.id.2 ≤ k
          · skip
            refine W_drawS 35 (fun Z => Below Y.heap.size Y Z) rfl rfl ?_
            have hS := Below.drew (Below.refl Y.heap.size Y)
            generalize Y.drew = Z at *
            refine S_takeV 0 34 rfl (by kernel_rfl) (by repeat (first | exact retQ_p | apply seqQ_p | apply blkQ_p | apply rndQ_p | apply cutQ_p)) hS ?_
            (refine Qb ?_)
            refine S_takeV 1 33 rfl (by kernel_rfl) (by repeat (first | exact retQ_p | apply seqQ_p | apply blkQ_p | apply rndQ_p | apply cutQ_p)) hS ?_
            (refine Qb ?_)
            refine S_takeV 2 32 rfl (by kernel_rfl) (by repeat (first | exact retQ_p | apply seqQ_p | apply blkQ_p | apply rndQ_p | apply cutQ_p)) hS ?_
            apply Qst_pu
            · apply P_idxm (j := i) (sz := 2)
              focus rfl
              focus rfl
              focus rfl
              focus rfl
              focus rfl
              focus omega
            focus rfl
            (refine Qb ?_)
            refine S_takeV 3 31 rfl (by kernel_rfl) (by repeat (first | exact retQ_p | apply seqQ_p | apply blkQ_p | apply rndQ_p | apply cutQ_p)) hS ?_
            (refine Qb ?_)
            refine S_takeV 4 30 rfl (by kernel_rfl) (by repeat (first | exact retQ_p | apply seqQ_p | apply blkQ_p | apply rndQ_p | apply cutQ_p)) hS ?_
            apply Qst_loadc
            focus rfl
            focus rfl
            focus rfl
            focus exact fun A9 hA9 => cell_below hA9 hc0
            focus rfl
            (refine Qb ?_)
            refine S_takeV 5 29 rfl (by kernel_rfl) (by repeat (first | exact retQ_p | apply seqQ_p | apply blkQ_p | apply rndQ_p | apply cutQ_p)) hS ?_
            (refine Qb ?_)
            refine S_takeV 6 28 rfl (by kernel_rfl) (by repeat (first | exact retQ_p | apply seqQ_p | apply blkQ_p | apply rndQ_p | apply cutQ_p)) hS ?_
            (refine Qb ?_)
            refine S_takeV 7 27 rfl (by kernel_rfl) (by repeat (first | exact retQ_p | apply seqQ_p | apply blkQ_p | apply rndQ_p | apply cutQ_p)) hS ?_
            (refine Qb ?_)
            refine S_takeV 8 26 rfl (by kernel_rfl) (by repeat (first | exact retQ_p | apply seqQ_p | apply blkQ_p | apply rndQ_p | apply cutQ_p)) hS ?_
            (refine Qb ?_)
            refine S_takeV 9 25 rfl (by kernel_rfl) (by repeat (first | exact retQ_p | apply seqQ_p | apply blkQ_p | apply rndQ_p | apply cutQ_p)) hS ?_
            (refine Qb ?_)
            refine S_takeV 10 24 rfl (by kernel_rfl) (by repeat (first | exact retQ_p | apply seqQ_p | apply blkQ_p | apply rndQ_p | apply cutQ_p)) hS ?_
            (refine Qb ?_)
            refine S_takeV 11 23 rfl (by kernel_rfl) (by repeat (first | exact retQ_p | apply seqQ_p | apply blkQ_p | apply rndQ_p | apply cutQ_p)) hS ?_
            (refine Qb ?_)
            refine S_takeV 12 22 rfl (by kernel_rfl) (by repeat (first | exact retQ_p | apply seqQ_p | apply blkQ_p | apply rndQ_p | apply cutQ_p)) hS ?_
            apply Qst_guard_t
            focus rfl
            focus rfl
            apply Qst_pu
            · apply P_idxm (j := i) (sz := 2)
              focus rfl
              focus rfl
              focus rfl
              focus rfl
              focus rfl
              focus omega
            focus rfl
            (refine Qb ?_)
            refine S_takeV 13 21 rfl (by kernel_rfl) (by repeat (first | exact retQ_p | apply seqQ_p | apply blkQ_p | apply rndQ_p | apply cutQ_p)) hS ?_
            (refine Qb ?_)
            refine S_takeV 14 20 rfl (by kernel_rfl) (by repeat (first | exact retQ_p | apply seqQ_p | apply blkQ_p | apply rndQ_p | apply cutQ_p)) hS ?_
            apply Qst_guard_t
            focus rfl
            focus rfl
            apply Qst_loadc
            focus rfl
            focus rfl
            focus rfl
            focus exact fun A9 hA9 => cell_below hA9 hc1
            focus rfl
            (refine Qb ?_)
            refine S_takeV 15 19 rfl (by kernel_rfl) (by repeat (first | exact retQ_p | apply seqQ_p | apply blkQ_p | apply rndQ_p | apply cutQ_p)) hS ?_
            (refine Qb ?_)
            refine S_takeV 16 18 rfl (by kernel_rfl) (by repeat (first | exact retQ_p | apply seqQ_p | apply blkQ_p | apply rndQ_p | apply cutQ_p)) hS ?_
            (refine Qb ?_)
            refine S_takeV 17 17 rfl (by kernel_rfl) (by repeat (first | exact retQ_p | apply seqQ_p | apply blkQ_p | apply rndQ_p | apply cutQ_p)) hS ?_
            (refine Qb ?_)
            refine S_takeV 18 16 rfl (by kernel_rfl) (by repeat (first | exact retQ_p | apply seqQ_p | apply blkQ_p | apply rndQ_p | apply cutQ_p)) hS ?_
            (refine Qb ?_)
            refine S_takeV 19 15 rfl (by kernel_rfl) (by repeat (first | exact retQ_p | apply seqQ_p | apply blkQ_p | apply rndQ_p | apply cutQ_p)) hS ?_
            (refine Qb ?_)
            refine S_takeV 20 14 rfl (by kernel_rfl) (by repeat (first | exact retQ_p | apply seqQ_p | apply blkQ_p | apply rndQ_p | apply cutQ_p)) hS ?_
            (refine Qb ?_)
            refine S_takeV 21 13 rfl (by kernel_rfl) (by repeat (first | exact retQ_p | apply seqQ_p | apply blkQ_p | apply rndQ_p | apply cutQ_p)) hS ?_
            (refine Qb ?_)
            refine S_takeV 22 12 rfl (by kernel_rfl) (by repeat (first | exact retQ_p | apply seqQ_p | apply blkQ_p | apply rndQ_p | apply cutQ_p)) hS ?_
            (refine Qb ?_)
            refine S_takeV 23 11 rfl (by kernel_rfl) (by repeat (first | exact retQ_p | apply seqQ_p | apply blkQ_p | apply rndQ_p | apply cutQ_p)) hS ?_
            apply Qst_guard_t
            focus rfl
            focus rfl
            apply Qst_pu
            · apply P_idxm (j := i) (sz := 2)
              focus rfl
              focus rfl
              focus rfl
              focus rfl
              focus rfl
              focus omega
            focus rfl
            (refine Qb ?_)
            refine S_takeV 24 10 rfl (by kernel_rfl) (by repeat (first | exact retQ_p | apply seqQ_p | apply blkQ_p | apply rndQ_p | apply cutQ_p)) hS ?_
            (refine Qb ?_)
            refine S_takeV 25 9 rfl (by kernel_rfl) (by repeat (first | exact retQ_p | apply seqQ_p | apply blkQ_p | apply rndQ_p | apply cutQ_p)) hS ?_
            apply Qst_guard_t
            focus rfl
            focus rfl
            apply Qst_loadc
            focus rfl
            focus rfl
            focus rfl
            focus exact fun A9 hA9 => cell_below hA9 hc1
            focus rfl
            (refine Qb ?_)
            refine S_takeV 26 8 rfl (by kernel_rfl) (by repeat (first | exact retQ_p | apply seqQ_p | apply blkQ_p | apply rndQ_p | apply cutQ_p)) hS ?_
            (refine Qb ?_)
            refine S_takeV 27 7 rfl (by kernel_rfl) (by repeat (first | exact retQ_p | apply seqQ_p | apply blkQ_p | apply rndQ_p | apply cutQ_p)) hS ?_
            (refine Qb ?_)
            refine S_takeV 28 6 rfl (by kernel_rfl) (by repeat (first | exact retQ_p | apply seqQ_p | apply blkQ_p | apply rndQ_p | apply cutQ_p)) hS ?_
            (refine Qb ?_)
            refine S_takeV 29 5 rfl (by kernel_rfl) (by repeat (first | exact retQ_p | apply seqQ_p | apply blkQ_p | apply rndQ_p | apply cutQ_p)) hS ?_
            (refine Qb ?_)
            refine S_takeV 30 4 rfl (by kernel_rfl) (by repeat (first | exact retQ_p | apply seqQ_p | apply blkQ_p | apply rndQ_p | apply cutQ_p)) hS ?_
            (refine Qb ?_)
            refine S_any [31] 3 rfl (by kernel_rfl) (all1 ?_)
            apply Lst_guard_t
            focus rfl
            focus rfl
            (apply Lst_call; (focus rfl); (focus rfl))
            refine (o_Len o hsx Z).mono ?_
            rintro v V ⟨rfl, hV⟩
            apply Lst_nil
            apply rnQ_n
            have hS2 := hS.trans (hV.mono hS.size)
            refine ⟨hS2, ?_⟩
            clear hS hV
            have hS := hS2
            refine S_takeV 32 2 rfl (by kernel_rfl) (by repeat (first | exact retQ_p | apply seqQ_p | apply blkQ_p | apply rndQ_p | apply cutQ_p)) hS ?_
            (refine Qb ?_)
            by_cases e3 : arith .sub .u64 (k : Int) (o.id.2 : Int) < (len o : Int)
            · skip
              refine S_takeV 33 1 rfl (by kernel_rfl) (by repeat (first | exact retQ_p | apply seqQ_p | apply blkQ_p | apply rndQ_p | apply cutQ_p)) hS ?_
              (refine Qb ?_)
              refine S_takeV 34 0 rfl (by kernel_rfl) (by repeat (first | exact retQ_p | apply seqQ_p | apply blkQ_p | apply rndQ_p | apply cutQ_p)) hS ?_
              (refine Qb ?_)
              refine S_done (by kernel_rfl) ?_
              (refine Ga ?_)
              (apply retQ1; (focus rfl))
              exact ⟨_, rfl, fun h => absurd h (by decide), fun hT => absurd ⟨e1, e2, e3⟩ (hck ▸ okT_hit hT hil), bY.trans (hS.mono sY)⟩
            · skip
              refine S_takeV 33 1 rfl (by kernel_rfl) (by repeat (first | exact retQ_p | apply seqQ_p | apply blkQ_p | apply rndQ_p | apply cutQ_p)) hS ?_
              (refine Qb ?_)
              refine S_takeV 34 0 rfl (by kernel_rfl) (by repeat (first | exact retQ_p | apply seqQ_p | apply blkQ_p | apply rndQ_p | apply cutQ_p)) hS ?_
              (refine Qb ?_)
              refine S_done (by kernel_rfl) ?_
              (refine Ga ?_)
              refine rndQ_n (α := Nat) (i + 1) ⟨hil, bY.trans (hS.mono sY), Nat.le_trans sY hS.size, hbY.trans (hS.mono hbY.size), fun j hj => ?_⟩ ⟨rfl, rfl, ?_, trivial⟩ (by omega)
              · rcases Nat.lt_succ_iff_lt_or_eq.1 hj with h | rfl
                · exact hno j h
                · rw [hck]
                  exact fun h => e3 h.2.2
              · exact congrArg (Value.int .i64) (by omega)
          · skip
            refine W_drawS 35 (fun Z => Below Y.heap.size Y Z) rfl rfl ?_
            have hS := Below.drew (Below.refl Y.heap.size Y)
            generalize Y.drew = Z at *
            refine S_takeV 0 34 rfl (by kernel_rfl) (by repeat (first | exact retQ_p | apply seqQ_p | apply blkQ_p | apply rndQ_p | apply cutQ_p)) hS ?_
            (refine Qb ?_)
            refine S_takeV 1 33 rfl (by kernel_rfl) (by repeat (first | exact retQ_p | apply seqQ_p | apply blkQ_p | apply rndQ_p | apply cutQ_p)) hS ?_
            (refine Qb ?_)
            refine S_takeV 2 32 rfl (by kernel_rfl) (by repeat (first | exact retQ_p | apply seqQ_p | apply blkQ_p | apply rndQ_p | apply cutQ_p)) hS ?_
            apply Qst_pu
            · apply P_idxm (j := i) (sz := 2)
              focus rfl
              focus rfl
              focus rfl
              focus rfl
              focus rfl
              focus omega
            focus rfl
            (refine Qb ?_)
            refine S_takeV 3 31 rfl (by kernel_rfl) (by repeat (first | exact retQ_p | apply seqQ_p | apply blkQ_p | apply rndQ_p | apply cutQ_p)) hS ?_
            (refine Qb ?_)
            refine S_takeV 4 30 rfl (by kernel_rfl) (by repeat (first | exact retQ_p | apply seqQ_p | apply blkQ_p | apply rndQ_p | apply cutQ_p)) hS ?_
            apply Qst_loadc
            focus rfl
            focus rfl
            focus rfl
            focus exact fun A9 hA9 => cell_below hA9 hc0
            focus rfl
            (refine Qb ?_)
            refine S_takeV 5 29 rfl (by kernel_rfl) (by repeat (first | exact retQ_p | apply seqQ_p | apply blkQ_p | apply rndQ_p | apply cutQ_p)) hS ?_
            (refine Qb ?_)
            refine S_takeV 6 28 rfl (by kernel_rfl) (by repeat (first | exact retQ_p | apply seqQ_p | apply blkQ_p | apply rndQ_p | apply cutQ_p)) hS ?_
            (refine Qb ?_)
            refine S_takeV 7 27 rfl (by kernel_rfl) (by repeat (first | exact retQ_p | apply seqQ_p | apply blkQ_p | apply rndQ_p | apply cutQ_p)) hS ?_
            (refine Qb ?_)
            refine S_takeV 8 26 rfl (by kernel_rfl) (by repeat (first | exact retQ_p | apply seqQ_p | apply blkQ_p | apply rndQ_p | apply cutQ_p)) hS ?_
            (refine Qb ?_)
            refine S_takeV 9 25 rfl (by kernel_rfl) (by repeat (first | exact retQ_p | apply seqQ_p | apply blkQ_p | apply rndQ_p | apply cutQ_p)) hS ?_
            (refine Qb ?_)
            refine S_takeV 10 24 rfl (by kernel_rfl) (by repeat (first | exact retQ_p | apply seqQ_p | apply blkQ_p | apply rndQ_p | apply cutQ_p)) hS ?_
            (refine Qb ?_)
            refine S_takeV 11 23 rfl (by kernel_rfl) (by repeat (first | exact retQ_p | apply seqQ_p | apply blkQ_p | apply rndQ_p | apply cutQ_p)) hS ?_
            (refine Qb ?_)
            refine S_takeV 12 22 rfl (by kernel_rfl) (by repeat (first | exact retQ_p | apply seqQ_p | apply blkQ_p | apply rndQ_p | apply cutQ_p)) hS ?_
            apply Qst_guard_t
            focus rfl
            focus rfl
            apply Qst_pu
            · apply P_idxm (j := i) (sz := 2)
              focus rfl
              focus rfl
              focus rfl
              focus rfl
              focus rfl
              focus omega
            focus rfl
            (refine Qb ?_)
            refine S_takeV 13 21 rfl (by kernel_rfl) (by repeat (first | exact retQ_p | apply seqQ_p | apply blkQ_p | apply rndQ_p | apply cutQ_p)) hS ?_
            (refine Qb ?_)
            refine S_takeV 14 20 rfl (by kernel_rfl) (by repeat (first | exact retQ_p | apply seqQ_p | apply blkQ_p | apply rndQ_p | apply cutQ_p)) hS ?_
            apply Qst_guard_t
            focus rfl
            focus rfl
            apply Qst_loadc
            focus rfl
            focus rfl
            focus rfl
            focus exact fun A9 hA9 => cell_below hA9 hc1
            focus rfl
            (refine Qb ?_)
            refine S_takeV 15 19 rfl (by kernel_rfl) (by repeat (first | exact retQ_p | apply seqQ_p | apply blkQ_p | apply rndQ_p | apply cutQ_p)) hS ?_
            (refine Qb ?_)
            refine S_takeV 16 18 rfl (by kernel_rfl) (by repeat (first | exact retQ_p | apply seqQ_p | apply blkQ_p | apply rndQ_p | apply cutQ_p)) hS ?_
            (refine Qb ?_)
            refine S_takeV 17 17 rfl (by kernel_rfl) (by repeat (first | exact retQ_p | apply seqQ_p | apply blkQ_p | apply rndQ_p | apply cutQ_p)) hS ?_
            (refine Qb ?_)
            refine S_takeV 18 16 rfl (by kernel_rfl) (by repeat (first | exact retQ_p | apply seqQ_p | apply blkQ_p | apply rndQ_p | apply cutQ_p)) hS ?_
            (refine Qb ?_)
            refine S_takeV 19 15 rfl (by kernel_rfl) (by repeat (first | exact retQ_p | apply seqQ_p | apply blkQ_p | apply rndQ_p | apply cutQ_p)) hS ?_
            (refine Qb ?_)
            refine S_takeV 20 14 rfl (by kernel_rfl) (by repeat (first | exact retQ_p | apply seqQ_p | apply blkQ_p | apply rndQ_p | apply cutQ_p)) hS ?_
            (refine Qb ?_)
            refine S_takeV 21 13 rfl (by kernel_rfl) (by repeat (first | exact retQ_p | apply seqQ_p | apply blkQ_p | apply rndQ_p | apply cutQ_p)) hS ?_
            (refine Qb ?_)
            refine S_takeV 22 12 rfl (by kernel_rfl) (by repeat (first | exact retQ_p | apply seqQ_p | apply blkQ_p | apply rndQ_p | apply cutQ_p)) hS ?_
            (refine Qb ?_)
            refine S_takeV 23 11 rfl (by kernel_rfl) (by repeat (first | exact retQ_p | apply seqQ_p | apply blkQ_p | apply rndQ_p | apply cutQ_p)) hS ?_
            (refine Qb ?_)
            refine S_takeV 24 10 rfl (by kernel_rfl) (by repeat (first | exact retQ_p | apply seqQ_p | apply blkQ_p | apply rndQ_p | apply cutQ_p)) hS ?_
            (refine Qb ?_)
            refine S_takeV 25 9 rfl (by kernel_rfl) (by repeat (first | exact retQ_p | apply seqQ_p | apply blkQ_p | apply rndQ_p | apply cutQ_p)) hS ?_
            (refine Qb ?_)
            refine S_takeV 26 8 rfl (by kernel_rfl) (by repeat (first | exact retQ_p | apply seqQ_p | apply blkQ_p | apply rndQ_p | apply cutQ_p)) hS ?_
            (refine Qb ?_)
            refine S_takeV 27 7 rfl (by kernel_rfl) (by repeat (first | exact retQ_p | apply seqQ_p | apply blkQ_p | apply rndQ_p | apply cutQ_p)) hS ?_
            (refine Qb ?_)
            refine S_takeV 28 6 rfl (by kernel_rfl) (by repeat (first | exact retQ_p | apply seqQ_p | apply blkQ_p | apply rndQ_p | apply cutQ_p)) hS ?_
            (refine Qb ?_)
            refine S_takeV 29 5 rfl (by kernel_rfl) (by repeat (first | exact retQ_p | apply seqQ_p | apply blkQ_p | apply rndQ_p | apply cutQ_p)) hS ?_
            (refine Qb ?_)
            refine S_takeV 30 4 rfl (by kernel_rfl) (by repeat (first | exact retQ_p | apply seqQ_p | apply blkQ_p | apply rndQ_p | apply cutQ_p)) hS ?_
            (refine Qb ?_)
            refine S_any [31] 3 rfl (by kernel_rfl) (all1 ?_)
            (refine Gf ?_)
            apply rnQ_n
            refine ⟨hS, ?_⟩
            refine S_takeV 32 2 rfl (by kernel_rfl) (by repeat (first | exact retQ_p | apply seqQ_p | apply blkQ_p | apply rndQ_p | apply cutQ_p)) hS ?_
            (refine Qb ?_)
            refine S_takeV 33 1 rfl (by kernel_rfl) (by repeat (first | exact retQ_p | apply seqQ_p | apply blkQ_p | apply rndQ_p | apply cutQ_p)) hS ?_
            (refine Qb ?_)
            refine S_takeV 34 0 rfl (by kernel_rfl) (by repeat (first | exact retQ_p | apply seqQ_p | apply blkQ_p | apply rndQ_p | apply cutQ_p)) hS ?_
            (refine Qb ?_)
            refine S_done (by kernel_rfl) ?_
            (refine Ga ?_)
            refine rndQ_n (α := Nat) (i + 1) ⟨hil, bY.trans (hS.mono sY), Nat.le_trans sY hS.size, hbY.trans (hS.mono hbY.size), fun j hj => ?_⟩ ⟨rfl, rfl, ?_, trivial⟩ (by omega)
            · rcases Nat.lt_succ_iff_lt_or_eq.1 hj with h | rfl
              · exact hno j h
              · rw [hck]
                exact fun h => e2 h.2.1
            · exact congrArg (Value.int .i64) (by omega)
        · skip
          refine W_drawS 35 (fun Z => Below Y.heap.size Y Z) rfl rfl ?_
          have hS := Below.drew (Below.refl Y.heap.size Y)
          generalize Y.drew = Z at *
          refine S_takeV 0 34 rfl (by kernel_rfl) (by repeat (first | exact retQ_p | apply seqQ_p | apply blkQ_p | apply rndQ_p | apply cutQ_p)) hS ?_
          (refine Qb ?_)
          refine S_takeV 1 33 rfl (by kernel_rfl) (by repeat (first | exact retQ_p | apply seqQ_p | apply blkQ_p | apply rndQ_p | apply cutQ_p)) hS ?_
          (refine Qb ?_)
          refine S_takeV 2 32 rfl (by kernel_rfl) (by repeat (first | exact retQ_p | apply seqQ_p | apply blkQ_p | apply rndQ_p | apply cutQ_p)) hS ?_
          apply Qst_pu
          · apply P_idxm (j := i) (sz := 2)
            focus rfl
            focus rfl
            focus rfl
            focus rfl
            focus rfl
            focus omega
          focus rfl
          (refine Qb ?_)
          refine S_takeV 3 31 rfl (by kernel_rfl) (by repeat (first | exact retQ_p | apply seqQ_p | apply blkQ_p | apply rndQ_p | apply cutQ_p)) hS ?_
          (refine Qb ?_)
          refine S_takeV 4 30 rfl (by kernel_rfl) (by repeat (first | exact retQ_p | apply seqQ_p | apply blkQ_p | apply rndQ_p | apply cutQ_p)) hS ?_
          apply Qst_loadc
          focus rfl
          focus rfl
          focus rfl
          focus exact fun A9 hA9 => cell_below hA9 hc0
          focus rfl
          (refine Qb ?_)
          refine S_takeV 5 29 rfl (by kernel_rfl) (by repeat (first | exact retQ_p | apply seqQ_p | apply blkQ_p | apply rndQ_p | apply cutQ_p)) hS ?_
          (refine Qb ?_)
          refine S_takeV 6 28 rfl (by kernel_rfl) (by repeat (first | exact retQ_p | apply seqQ_p | apply blkQ_p | apply rndQ_p | apply cutQ_p)) hS ?_
          (refine Qb ?_)
          refine S_takeV 7 27 rfl (by kernel_rfl) (by repeat (first | exact retQ_p | apply seqQ_p | apply blkQ_p | apply rndQ_p | apply cutQ_p)) hS ?_
          (refine Qb ?_)
          refine S_takeV 8 26 rfl (by kernel_rfl) (by repeat (first | exact retQ_p | apply seqQ_p | apply blkQ_p | apply rndQ_p | apply cutQ_p)) hS ?_
          (refine Qb ?_)
          refine S_takeV 9 25 rfl (by kernel_rfl) (by repeat (first | exact retQ_p | apply seqQ_p | apply blkQ_p | apply rndQ_p | apply cutQ_p)) hS ?_
          (refine Qb ?_)
          refine S_takeV 10 24 rfl (by kernel_rfl) (by repeat (first | exact retQ_p | apply seqQ_p | apply blkQ_p | apply rndQ_p | apply cutQ_p)) hS ?_
          (refine Qb ?_)
          refine S_takeV 11 23 rfl (by kernel_rfl) (by repeat (first | exact retQ_p | apply seqQ_p | apply blkQ_p | apply rndQ_p | apply cutQ_p)) hS ?_
          (refine Qb ?_)
          refine S_takeV 12 22 rfl (by kernel_rfl) (by repeat (first | exact retQ_p | apply seqQ_p | apply blkQ_p | apply rndQ_p | apply cutQ_p)) hS ?_
          (refine Qb ?_)
          refine S_takeV 13 21 rfl (by kernel_rfl) (by repeat (first | exact retQ_p | apply seqQ_p | apply blkQ_p | apply rndQ_p | apply cutQ_p)) hS ?_
          (refine Qb ?_)
          refine S_takeV 14 20 rfl (by kernel_rfl) (by repeat (first | exact retQ_p | apply seqQ_p | apply blkQ_p | apply rndQ_p | apply cutQ_p)) hS ?_
          (refine Qb ?_)
          refine S_takeV 15 19 rfl (by kernel_rfl) (by repeat (first | exact retQ_p | apply seqQ_p | apply blkQ_p | apply rndQ_p | apply cutQ_p)) hS ?_
          (refine Qb ?_)
          refine S_takeV 16 18 rfl (by kernel_rfl) (by repeat (first | exact retQ_p | apply seqQ_p | apply blkQ_p | apply rndQ_p | apply cutQ_p)) hS ?_
          (refine Qb ?_)
          refine S_takeV 17 17 rfl (by kernel_rfl) (by repeat (first | exact retQ_p | apply seqQ_p | apply blkQ_p | apply rndQ_p | apply cutQ_p)) hS ?_
          (refine Qb ?_)
          refine S_takeV 18 16 rfl (by kernel_rfl) (by repeat (first | exact retQ_p | apply seqQ_p | apply blkQ_p | apply rndQ_p | apply cutQ_p)) hS ?_
          (refine Qb ?_)
          refine S_takeV 19 15 rfl (by kernel_rfl) (by repeat (first | exact retQ_p | apply seqQ_p | apply blkQ_p | apply rndQ_p | apply cutQ_p)) hS ?_
          (refine Qb ?_)
          refine S_takeV 20 14 rfl (by kernel_rfl) (by repeat (first | exact retQ_p | apply seqQ_p | apply blkQ_p | apply rndQ_p | apply cutQ_p)) hS ?_
          (refine Qb ?_)
          refine S_takeV 21 13 rfl (by kernel_rfl) (by repeat (first | exact retQ_p | apply seqQ_p | apply blkQ_p | apply rndQ_p | apply cutQ_p)) hS ?_
          (refine Qb ?_)
          refine S_takeV 22 12 rfl (by kernel_rfl) (by repeat (first | exact retQ_p | apply seqQ_p | apply blkQ_p | apply rndQ_p | apply cutQ_p)) hS ?_
          (refine Qb ?_)
          refine S_takeV 23 11 rfl (by kernel_rfl) (by repeat (first | exact retQ_p | apply seqQ_p | apply blkQ_p | apply rndQ_p | apply cutQ_p)) hS ?_
          (refine Qb ?_)
          refine S_takeV 24 10 rfl (by kernel_rfl) (by repeat (first | exact retQ_p | apply seqQ_p | apply blkQ_p | apply rndQ_p | apply cutQ_p)) hS ?_
          (refine Qb ?_)
          refine S_takeV 25 9 rfl (by kernel_rfl) (by repeat (first | exact retQ_p | apply seqQ_p | apply blkQ_p | apply rndQ_p | apply cutQ_p)) hS ?_
          (refine Qb ?_)
          refine S_takeV 26 8 rfl (by kernel_rfl) (by repeat (first | exact retQ_p | apply seqQ_p | apply blkQ_p | apply rndQ_p | apply cutQ_p)) hS ?_
          (refine Qb ?_)
          refine S_takeV 27 7 rfl (by kernel_rfl) (by repeat (first | exact retQ_p | apply seqQ_p | apply blkQ_p | apply rndQ_p | apply cutQ_p)) hS ?_
          (refine Qb ?_)
          refine S_takeV 28 6 rfl (by kernel_rfl) (by repeat (first | exact retQ_p | apply seqQ_p | apply blkQ_p | apply rndQ_p | apply cutQ_p)) hS ?_
          (refine Qb ?_)
          refine S_takeV 29 5 rfl (by kernel_rfl) (by repeat (first | exact retQ_p | apply seqQ_p | apply blkQ_p | apply rndQ_p | apply cutQ_p)) hS ?_
          (refine Qb ?_)
          refine S_takeV 30 4 rfl (by kernel_rfl) (by repeat (first | exact retQ_p | apply seqQ_p | apply blkQ_p | apply rndQ_p | apply cutQ_p)) hS ?_
          (refine Qb ?_)
          refine S_any [31] 3 rfl (by kernel_rfl) (all1 ?_)
          (refine Gf ?_)
          apply rnQ_n
          refine ⟨hS, ?_⟩
          refine S_takeV 32 2 rfl (by kernel_rfl) (by repeat (first | exact retQ_p | apply seqQ_p | apply blkQ_p | apply rndQ_p | apply cutQ_p)) hS ?_
          (refine Qb ?_)
          refine S_takeV 33 1 rfl (by kernel_rfl) (by repeat (first | exact retQ_p | apply seqQ_p | apply blkQ_p | apply rndQ_p | apply cutQ_p)) hS ?_
          (refine Qb ?_)
          refine S_takeV 34 0 rfl (by kernel_rfl) (by repeat (first | exact retQ_p | apply seqQ_p | apply blkQ_p | apply rndQ_p | apply cutQ_p)) hS ?_
          (refine Qb ?_)
          refine S_done (by kernel_rfl) ?_
          (refine Ga ?_)
          refine rndQ_n (α := Nat) (i + 1) ⟨hil, bY.trans (hS.mono sY), Nat.le_trans sY hS.size, hbY.trans (hS.mono hbY.size), fun j hj => ?_⟩ ⟨rfl, rfl, ?_, trivial⟩ (by omega)
          · rcases Nat.lt_succ_iff_lt_or_eq.1 hj with h | rfl
            · exact hno j h
            · rw [hck]
              exact fun h => e1 h.1
          · exact congrArg (Value.int .i64) (by omega)
      · obtain rfl : i = 5 := by omega
        (refine Ga ?_)
        (apply retQ1; (focus rfl))
        exact ⟨_, rfl, fun _ => ⟨rfl, fun h1 => okT_of hid (eb3.1 rfl h1) h1 (hno 0 (by omega)) (hno 1 (by omega))⟩, fun _ => rfl, bY⟩
end
end Op
end Go.Proofs.YtifkedhbelflkaaDoor
