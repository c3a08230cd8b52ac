/- ValueTexts: the walk of the law. -/
import Derived.Test.YtnlmilcfmalodaaDoorSxDrawR
import Derived.Test.YtnlmilcfmalodaaDoorSame
import Derived.Test.YtnlmilcfmalodaaDoorVRef
import Derived.Test.YtnlmilcfmalodaaDoorVal7
namespace Go.Proofs.YtnlmilcfmalodaaDoor
set_option maxRecDepth 100000
namespace Val
open Go Go.RowKit Sx Fl Hex Wire
theorem WrAt.off {b b' B : Nat} {l : List UInt8} {w w' : World} (h : WrAt b B l w) (ho : Off b' w.heap.size w w') (hbb : b ≠ b') (hB : b' < B) : WrAt b B l w' := by
  obtain ⟨h1, sv, hblk, hown, hne⟩ := h
  exact ⟨Nat.le_trans h1 ho.size, sv, Off.blk ho hblk hblk.lt hbb, own_keep hown (fun g o hg hx _ => (ho.block g (lt_of_some hx) (by omega)).trans hx), hne⟩
theorem WrAt.below {b B : Nat} {l : List UInt8} {w w' : World} (h : WrAt b B l w) (hb : Below w.heap.size w w') : WrAt b B l w' := by
  obtain ⟨h1, sv, hblk, hown, hne⟩ := h
  exact ⟨Nat.le_trans h1 hb.size, sv, hblk.below hb hblk.lt, own_below hown hb (Nat.le_refl _), hne⟩
theorem wireV_len (x : Vl) (hx : x.s.size ≤ 6000) (h0 : -9223372036854775808 ≤ x.n) (h1 : x.n < 9223372036854775808) : (wireV x).length ≤ 1000000 := by
  have a := Lib.uvarint_length64 (show x.s.size < 18446744073709551616 by omega)
  have b := Lib.uvarint_length64 (zz_lt h0 h1)
  have c : x.s.data.toList.length = x.s.size := rfl
  unfold wireV
  rw [List.length_cons]
  split
  · simp
  split
  · omega
  split
  · rw [fixN_length]; omega
  split
  · rw [List.length_append]; omega
  · simp
attribute [local irreducible] W Lst Qst Pu seqQ blkQ rndQ cutQ retQ Does Enters IntKind.wrap bits sb World.alloc World.putObj Blk
attribute [local irreducible] Rn Tk rnQ
set_option maxHeartbeats 2000000 in
theorem law_ValueTexts (x y : Vl) (hx : x.Bd) (hy : y.Bd) (w : World) (hT : VTabs w) : Does Tryd.prog 8 #[x.v, y.v] w fun v w' => v = .bool true ∧ Below w.heap.size w w' := by
  have l1 := fun A => c_light x A
  have l2 := fun A => c_light y A
  have ra := fun A => r_Check x A
  have rb := fun A => r_Check y A
  have kf := cmpV_zero (x := x) (y := y) hx.2.2 hy.2.2
  have ts := fun a b => text_same (x := x) (y := y) a b hx.2.2 hy.2.2
  have ws := fun a b => wire_same (x := x) (y := y) a b hx.2.2 hy.2.2
  have st := same_text (x := x) (y := y)
  have sw := same_wire (x := x) (y := y)
  have mk : ∀ z : Vl, z.Bd → z.s.size ≤ 6000 → okV z = true → (∀ A b, Blk A b [.slice none 0 0] 46 → Does Tryd.prog 26 #[.pointer (some ⟨b, 0, none⟩), z.v] A fun v w' => v = .tuple #[] ∧ WrAt b (A.heap.size + 1) (wireV z) w' ∧ Off b A.heap.size A w') ∧
      (∀ A, VTabs A → Does Tryd.prog 25 #[z.v] A fun v w' => v = .string ⟨(textV z).toArray⟩ ∧ Below A.heap.size A w') ∧
      (∀ A, Does Tryd.prog 27 #[z.v] A fun v w' => v = .string ⟨(textV z).toArray⟩ ∧ Below A.heap.size A w') ∧ (wireV z).length ≤ 1000000 :=
    fun z hz hs hok => ⟨fun A b hb => c_Write b z hok (hz.fit hs) hs A hb, fun A h => c_Text z (hz.fit hs) (by omega) A h, fun A => r_Text z hok (hz.fit hs) (by omega) A, wireV_len z hs hz.2.1.1 hz.2.1.2⟩
  have m1 := mk x hx
  have m2 := mk y hy
  have cm := fun a b A => c_Cmp x y (hx.fit a) (hy.fit b) A
  clear mk
  obtain ⟨k, n, f, s⟩ := x
  obtain ⟨k', n', f', s'⟩ := y
  dsimp only at l1 l2 m1 m2 cm
  refine Does_of (args := [.agg #[.int .i64 k, .int .i64 n, .float .f64 f, .string s], .agg #[.int .i64 k', .int .i64 n', .float .f64 f', .string s']]) Tryd.func8 (by kernel_rfl) rfl rfl rfl rfl rfl ?_
  (refine Ga ?_)
  (apply Lst_call; (focus rfl); (focus rfl))
  refine (c_known _ (hT.below Bel)).mono ?_
  rintro v w1 ⟨rfl, hb1⟩
  have b1 := Sx.Below.after (w := w) Bel hb1
  have s1 := hb1.size
  try simp only [Sx.sizes] at s1
  (refine Ga ?_)
  (apply Lst_call; (focus rfl); (focus rfl))
  refine (l1 _).mono ?_
  rintro v w2 ⟨rfl, hb2⟩
  have b2 := Sx.Below.after (w := w) Bel hb2
  have s2 := hb2.size
  try simp only [Sx.sizes] at s2
  by_cases h1 : s.size ≤ 6000
  · rw [decide_eq_true h1]
    (refine Ga ?_)
    (apply Lst_call; (focus rfl); (focus rfl))
    refine (l2 _).mono ?_
    rintro v w3 ⟨rfl, hb3⟩
    have b3 := Sx.Below.after (w := w) Bel hb3
    have s3 := hb3.size
    try simp only [Sx.sizes] at s3
    by_cases h2 : s'.size ≤ 6000
    · rw [decide_eq_true h2]
      (refine Ga ?_)
      (apply Lst_call; (focus rfl); (focus rfl))
      refine (ra _).mono ?_
      rintro v w4 ⟨rfl, hb4⟩
      have b4 := Sx.Below.after (w := w) Bel hb4
      have s4 := hb4.size
      try simp only [Sx.sizes] at s4
      by_cases o1 : okV ⟨k, n, f, s⟩ = true
      · rw [if_pos o1]
        (refine Ga ?_)
        (apply Lst_call; (focus rfl); (focus rfl))
        refine (rb _).mono ?_
        rintro v w5 ⟨rfl, hb5⟩
        have b5 := Sx.Below.after (w := w) Bel hb5
        have s5 := hb5.size
        try simp only [Sx.sizes] at s5
        by_cases o2 : okV ⟨k', n', f', s'⟩ = true
        · rw [if_pos o2]
          obtain ⟨wa, ta, ua, la⟩ := m1 h1 o1
          obtain ⟨wb, tb, ub, lb⟩ := m2 h2 o2
          have cm' := fun A => cm h1 h2 A
          have ts' := ts o1 o2
          have ws' := ws o1 o2
          clear m1 m2 cm ts ws ra rb l1 l2
          generalize cmpV ⟨k, n, f, s⟩ ⟨k', n', f', s'⟩ = p at cm' kf
          generalize Val.Same ⟨k, n, f, s⟩ ⟨k', n', f', s'⟩ = sm at kf ts' ws' st sw
          generalize wireV ⟨k, n, f, s⟩ = wx at wa la ws' sw
          generalize wireV ⟨k', n', f', s'⟩ = wy at wb lb ws' sw
          generalize textV ⟨k, n, f, s⟩ = tx at ta ua ts' st
          generalize textV ⟨k', n', f', s'⟩ = ty at tb ub ts' st
          (refine Ga ?_)
          have hN : w.heap.size + 2 ≤ w5.heap.size := by omega
          refine Lst_abs (fun A => Below w.heap.size w A ∧ Blk A w.heap.size [.int .i64 k, .int .i64 n, .float .f64 f, .string s] 24 ∧ Blk A (w.heap.size + 1) [.int .i64 k', .int .i64 n', .float .f64 f', .string s'] 24 ∧ Blk A w5.heap.size [.slice none 0 0] 46 ∧ Blk A (w5.heap.size + 1) [.slice none 0 0] 46 ∧ w5.heap.size + 1 + 1 = A.heap.size) ⟨Bel, (by (repeat (first | assumption | (apply Blk.below (hb := hb1); rotate_left; (focus ((try simp only [Sx.sizes]); omega)); rotate_right) | (apply Blk.below (hb := hb2); rotate_left; (focus ((try simp only [Sx.sizes]); omega)); rotate_right) | (apply Blk.below (hb := hb3); rotate_left; (focus ((try simp only [Sx.sizes]); omega)); rotate_right) | (apply Blk.below (hb := hb4); rotate_left; (focus ((try simp only [Sx.sizes]); omega)); rotate_right) | (apply Blk.below (hb := hb5); rotate_left; (focus ((try simp only [Sx.sizes]); omega)); rotate_right) | (apply Blk.below (hb := hb6); rotate_left; (focus ((try simp only [Sx.sizes]); omega)); rotate_right) | (apply Blk.below (hb := hb7); rotate_left; (focus ((try simp only [Sx.sizes]); omega)); rotate_right) | (apply Blk.below (hb := hb8); rotate_left; (focus ((try simp only [Sx.sizes]); omega)); rotate_right) | (apply Blk.below (hb := hb9); rotate_left; (focus ((try simp only [Sx.sizes]); omega)); rotate_right) | exact Blk.newE (by first | rfl | ((try simp only [Sx.sizes]); first | done | omega)) _ _ | exact Blk.put_same (by (try simp only [Sx.sizes]); first | done | omega) _ _ | (apply Blk.put_ne; (focus omega)) | apply Blk.alloc | apply Blk.drew)); done), (by (repeat (first | assumption | (apply Blk.below (hb := hb1); rotate_left; (focus ((try simp only [Sx.sizes]); omega)); rotate_right) | (apply Blk.below (hb := hb2); rotate_left; (focus ((try simp only [Sx.sizes]); omega)); rotate_right) | (apply Blk.below (hb := hb3); rotate_left; (focus ((try simp only [Sx.sizes]); omega)); rotate_right) | (apply Blk.below (hb := hb4); rotate_left; (focus ((try simp only [Sx.sizes]); omega)); rotate_right) | (apply Blk.below (hb := hb5); rotate_left; (focus ((try simp only [Sx.sizes]); omega)); rotate_right) | (apply Blk.below (hb := hb6); rotate_left; (focus ((try simp only [Sx.sizes]); omega)); rotate_right) | (apply Blk.below (hb := hb7); rotate_left; (focus ((try simp only [Sx.sizes]); omega)); rotate_right) | (apply Blk.below (hb := hb8); rotate_left; (focus ((try simp only [Sx.sizes]); omega)); rotate_right) | (apply Blk.below (hb := hb9); rotate_left; (focus ((try simp only [Sx.sizes]); omega)); rotate_right) | exact Blk.newE (by first | rfl | ((try simp only [Sx.sizes]); first | done | omega)) _ _ | exact Blk.put_same (by (try simp only [Sx.sizes]); first | done | omega) _ _ | (apply Blk.put_ne; (focus omega)) | apply Blk.alloc | apply Blk.drew)); done), (by (repeat (first | assumption | (apply Blk.below (hb := hb1); rotate_left; (focus ((try simp only [Sx.sizes]); omega)); rotate_right) | (apply Blk.below (hb := hb2); rotate_left; (focus ((try simp only [Sx.sizes]); omega)); rotate_right) | (apply Blk.below (hb := hb3); rotate_left; (focus ((try simp only [Sx.sizes]); omega)); rotate_right) | (apply Blk.below (hb := hb4); rotate_left; (focus ((try simp only [Sx.sizes]); omega)); rotate_right) | (apply Blk.below (hb := hb5); rotate_left; (focus ((try simp only [Sx.sizes]); omega)); rotate_right) | (apply Blk.below (hb := hb6); rotate_left; (focus ((try simp only [Sx.sizes]); omega)); rotate_right) | (apply Blk.below (hb := hb7); rotate_left; (focus ((try simp only [Sx.sizes]); omega)); rotate_right) | (apply Blk.below (hb := hb8); rotate_left; (focus ((try simp only [Sx.sizes]); omega)); rotate_right) | (apply Blk.below (hb := hb9); rotate_left; (focus ((try simp only [Sx.sizes]); omega)); rotate_right) | exact Blk.newE (by first | rfl | ((try simp only [Sx.sizes]); first | done | omega)) _ _ | exact Blk.put_same (by (try simp only [Sx.sizes]); first | done | omega) _ _ | (apply Blk.put_ne; (focus omega)) | apply Blk.alloc | apply Blk.drew)); done), (by (repeat (first | assumption | (apply Blk.below (hb := hb1); rotate_left; (focus ((try simp only [Sx.sizes]); omega)); rotate_right) | (apply Blk.below (hb := hb2); rotate_left; (focus ((try simp only [Sx.sizes]); omega)); rotate_right) | (apply Blk.below (hb := hb3); rotate_left; (focus ((try simp only [Sx.sizes]); omega)); rotate_right) | (apply Blk.below (hb := hb4); rotate_left; (focus ((try simp only [Sx.sizes]); omega)); rotate_right) | (apply Blk.below (hb := hb5); rotate_left; (focus ((try simp only [Sx.sizes]); omega)); rotate_right) | (apply Blk.below (hb := hb6); rotate_left; (focus ((try simp only [Sx.sizes]); omega)); rotate_right) | (apply Blk.below (hb := hb7); rotate_left; (focus ((try simp only [Sx.sizes]); omega)); rotate_right) | (apply Blk.below (hb := hb8); rotate_left; (focus ((try simp only [Sx.sizes]); omega)); rotate_right) | (apply Blk.below (hb := hb9); rotate_left; (focus ((try simp only [Sx.sizes]); omega)); rotate_right) | exact Blk.newE (by first | rfl | ((try simp only [Sx.sizes]); first | done | omega)) _ _ | exact Blk.put_same (by (try simp only [Sx.sizes]); first | done | omega) _ _ | (apply Blk.put_ne; (focus omega)) | apply Blk.alloc | apply Blk.drew)); done), by simp only [Sx.sizes]⟩ ?_
          generalize w5.heap.size = N at hN ⊢
          clear hb1 b1 s1 hb2 b2 s2 hb3 b3 s3 hb4 b4 s4 hb5 b5 s5
          rintro A ⟨b0, ka, kb, k5, k6, hsz⟩
          (apply Lst_call; (focus rfl); (focus rfl))
          refine (wa A _ k5).mono ?_
          rintro v w6 ⟨rfl, hw5, off5⟩
          have ka6 := Off.blk off5 ka (by omega) (by omega)
          have kb6 := Off.blk off5 kb (by omega) (by omega)
          have k66 := Off.blk off5 k6 (by omega) (by omega)
          have bo5 : Below w.heap.size A w6 := off5.below (by omega) (by omega)
          have b6 := b0.trans bo5
          have sz6 := off5.size
          (refine Ga ?_)
          (apply Lst_call; (focus rfl); (focus rfl))
          refine (wb w6 _ k66).mono ?_
          rintro v w7 ⟨rfl, hw6, off6⟩
          have ka7 := Off.blk off6 ka6 (by omega) (by omega)
          have kb7 := Off.blk off6 kb6 (by omega) (by omega)
          have hw5' := WrAt.off hw5 off6 (by omega) (by omega)
          have bo6 : Below w.heap.size w6 w7 := off6.below (by omega) (by omega)
          have b7 := b6.trans bo6
          have sz7 := off6.size
          (refine Ga ?_)
          (apply Lst_call; (focus rfl); (focus rfl))
          refine (cm' _).mono ?_
          rintro v w1 ⟨rfl, hb1⟩
          have b1 := Sx.Below.after (w := w) Bel hb1
          have s1 := hb1.size
          try simp only [Sx.sizes] at s1
          by_cases hsm : sm
          · skip
            have hp := kf.2 hsm
            have hst : (⟨tx.toArray⟩ : ByteArray) = ⟨ty.toArray⟩ := by rw [st hsm]
            have hwe := sw hsm
            (refine Ga ?_)
            refine W_drawN 15 14 7 (Grown _) rfl (by kernel_rfl) rfl (grown_start _) ?_
            (refine Qb ?_)
            apply Qst_call (.string ⟨tx.toArray⟩)
            focus rfl
            focus rfl
            · intro A9 hb9
              exact (ta A9 ((hT.below Bel).below hb9)).mono fun v w' h => ⟨h.1, Sx.Below.after hb9 h.2⟩
            (refine Qb ?_)
            apply Qst_call (.string ⟨tx.toArray⟩)
            focus rfl
            focus rfl
            · intro A9 hb9
              exact (ua A9).mono fun v w' h => ⟨h.1, Sx.Below.after hb9 h.2⟩
            (refine Qb ?_)
            apply Qst_call (.string ⟨tx.toArray⟩)
            focus rfl
            focus rfl
            · intro A9 hb9
              exact (ta A9 ((hT.below Bel).below hb9)).mono fun v w' h => ⟨h.1, Sx.Below.after hb9 h.2⟩
            (refine Qb ?_)
            apply Qst_call (.string ⟨ty.toArray⟩)
            focus rfl
            focus rfl
            · intro A9 hb9
              exact (tb A9 ((hT.below Bel).below hb9)).mono fun v w' h => ⟨h.1, Sx.Below.after hb9 h.2⟩
            (refine Qb ?_)
            intro w9 hb9
            have b9 := Sx.Below.after (w := w) Bel hb9
            have s9 := hb9.size
            try simp only [Sx.sizes] at s9
            refine R_takeN 18 [15, 16, 17, 19] 2 (fun _ => True) rfl (by kernel_rfl) (by repeat (first | exact retQ_p | apply seqQ_p | apply blkQ_p)) trivial ?_
            (refine Gt ?_)
            have hr5 := WrAt.below (WrAt.below hw5' hb1) hb9
            have hr6 := WrAt.below (WrAt.below hw6 hb1) hb9
            (apply Lst_call; (focus rfl); (focus rfl))
            refine (c_WBytes _ _ wx la _ hr5).mono ?_
            rintro u w10 ⟨hu, hb10⟩
            have b10 := Sx.Below.after b9 hb10
            obtain ⟨u1, u2, rfl⟩ := hu.form
            (refine Gt ?_)
            (apply Lst_call; (focus rfl); (focus rfl))
            refine (c_WBytes _ _ wy lb _ (WrAt.below hr6 hb10)).mono ?_
            rintro u' w11 ⟨hu', hb11⟩
            have b11 := Sx.Below.after b10 hb11
            obtain ⟨u3, u4, rfl⟩ := hu'.form
            have hu2 := hu.below hb11 (Nat.le_refl _)
            (refine Gt ?_)
            (apply Lst_call; (focus rfl); (focus rfl))
            refine (h_Bytes _ _ wx wy _ hu2 hu').mono ?_
            rintro v w' ⟨rfl, rfl⟩
            rw [decide_eq_true hwe]
            (refine Gt ?_)
            refine R_force 20 (by kernel_rfl) ?_
            (refine Gt ?_)
            refine R_force 21 (by kernel_rfl) ?_
            (refine Gt ?_)
            refine R_done (by kernel_rfl) ?_
            (refine Ga ?_)
            (apply retQ1; (focus rfl))
            exact ⟨rfl, b11⟩
          · skip
            have hp : ¬ p = 0 := fun e => hsm (kf.1 e)
            have hst : ¬ (⟨tx.toArray⟩ : ByteArray) = ⟨ty.toArray⟩ := fun e => hsm (ts' (by simpa using congrArg (fun z : ByteArray => z.data.toList) e))
            have hwe : ¬ wx = wy := fun e => hsm (ws' e)
            (refine Ga ?_)
            refine W_drawN 15 14 7 (Grown _) rfl (by kernel_rfl) rfl (grown_start _) ?_
            (refine Qb ?_)
            apply Qst_call (.string ⟨tx.toArray⟩)
            focus rfl
            focus rfl
            · intro A9 hb9
              exact (ta A9 ((hT.below Bel).below hb9)).mono fun v w' h => ⟨h.1, Sx.Below.after hb9 h.2⟩
            (refine Qb ?_)
            apply Qst_call (.string ⟨tx.toArray⟩)
            focus rfl
            focus rfl
            · intro A9 hb9
              exact (ua A9).mono fun v w' h => ⟨h.1, Sx.Below.after hb9 h.2⟩
            (refine Qb ?_)
            apply Qst_call (.string ⟨tx.toArray⟩)
            focus rfl
            focus rfl
            · intro A9 hb9
              exact (ta A9 ((hT.below Bel).below hb9)).mono fun v w' h => ⟨h.1, Sx.Below.after hb9 h.2⟩
            (refine Qb ?_)
            apply Qst_call (.string ⟨ty.toArray⟩)
            focus rfl
            focus rfl
            · intro A9 hb9
              exact (tb A9 ((hT.below Bel).below hb9)).mono fun v w' h => ⟨h.1, Sx.Below.after hb9 h.2⟩
            (refine Qb ?_)
            intro w9 hb9
            have b9 := Sx.Below.after (w := w) Bel hb9
            have s9 := hb9.size
            try simp only [Sx.sizes] at s9
            refine R_takeN 18 [15, 16, 17, 19] 2 (fun _ => True) rfl (by kernel_rfl) (by repeat (first | exact retQ_p | apply seqQ_p | apply blkQ_p)) trivial ?_
            (refine Gt ?_)
            have hr5 := WrAt.below (WrAt.below hw5' hb1) hb9
            have hr6 := WrAt.below (WrAt.below hw6 hb1) hb9
            (apply Lst_call; (focus rfl); (focus rfl))
            refine (c_WBytes _ _ wx la _ hr5).mono ?_
            rintro u w10 ⟨hu, hb10⟩
            have b10 := Sx.Below.after b9 hb10
            obtain ⟨u1, u2, rfl⟩ := hu.form
            (refine Gt ?_)
            (apply Lst_call; (focus rfl); (focus rfl))
            refine (c_WBytes _ _ wy lb _ (WrAt.below hr6 hb10)).mono ?_
            rintro u' w11 ⟨hu', hb11⟩
            have b11 := Sx.Below.after b10 hb11
            obtain ⟨u3, u4, rfl⟩ := hu'.form
            have hu2 := hu.below hb11 (Nat.le_refl _)
            (refine Gt ?_)
            (apply Lst_call; (focus rfl); (focus rfl))
            refine (h_Bytes _ _ wx wy _ hu2 hu').mono ?_
            rintro v w' ⟨rfl, rfl⟩
            rw [decide_eq_false hwe]
            (refine Gt ?_)
            refine R_force 20 (by kernel_rfl) ?_
            (refine Gt ?_)
            refine R_force 21 (by kernel_rfl) ?_
            (refine Gt ?_)
            refine R_done (by kernel_rfl) ?_
            (refine Ga ?_)
            (apply retQ1; (focus rfl))
            exact ⟨rfl, b11⟩
        · rw [if_neg o2]
          (refine Ga ?_)
          (apply retQ1; (focus rfl))
          exact ⟨rfl, Bel⟩
      · rw [if_neg o1]
        (refine Ga ?_)
        (apply retQ1; (focus rfl))
        exact ⟨rfl, Bel⟩
    · rw [decide_eq_false h2]
      (refine Ga ?_)
      (apply retQ1; (focus rfl))
      exact ⟨rfl, Bel⟩
  · rw [decide_eq_false h1]
    (refine Ga ?_)
    (apply retQ1; (focus rfl))
    exact ⟨rfl, Bel⟩
end Val
end Go.Proofs.YtnlmilcfmalodaaDoor
