/- ValueAdds, ValueCheck: the walks of the laws. -/
import Derived.Test.YtnlmilcfmalodaaDoorOrder
import Derived.Test.YtnlmilcfmalodaaDoorVal7
namespace Go.Proofs.YtnlmilcfmalodaaDoor
set_option maxRecDepth 100000
namespace Val
open Go Go.RowKit Sx Fl Hex
theorem sumF_comm (p q : Nat) : sumF p q = sumF q p := by unfold sumF; rw [add_comm]
theorem addV_comm (x y : Vl) : addV x y = addV y x := by
  unfold addV
  by_cases h : x.k = 2 ∧ y.k = 2
  · rw [if_pos h, if_pos ⟨h.2, h.1⟩, Int.add_comm]
  · rw [if_neg h, if_neg (fun e => h ⟨e.2, e.1⟩)]
    cases numV x <;> cases numV y
    · rfl
    · rfl
    · rfl
    · dsimp only
      rw [sumF_comm]
theorem addV_ok (x y : Vl) : okV (addV x y) = true := by
  unfold addV
  split
  · rfl
  · cases numV x <;> cases numV y <;> first | rfl | (unfold okV; simp)
theorem cleanV_ok {x : Vl} (h : okV x = true) (hn : ¬ (x.k = 3 ∧ isNaN x.f = true)) : cleanV x = x := by
  obtain ⟨k, n, f, s⟩ := x
  unfold cleanV nbits
  dsimp only at hn ⊢
  by_cases hf : isNaN f = true
  · exfalso
    have h0 : ¬ f = 0 := fun e => by subst e; exact absurd hf (by decide)
    have h3 : ¬ k = 3 := fun e => hn ⟨e, hf⟩
    unfold okV at h
    simp [h0, h3] at h
  · rw [if_neg hf]
attribute [local irreducible] W Lst Qst Pu seqQ blkQ rndQ cutQ retQ Does Enters IntKind.wrap bits sb World.alloc World.putObj Blk
theorem c_bits (x : Vl) (w : World) : Does Tryd.prog 16 #[x.v, x.v] w fun v w' => v = .bool true ∧ Below w.heap.size w w' := by
  obtain ⟨k, n, f, s⟩ := x
  refine Does_of (args := [.agg #[.int .i64 k, .int .i64 n, .float .f64 f, .string s], .agg #[.int .i64 k, .int .i64 n, .float .f64 f, .string s]]) Tryd.func16 (by kernel_rfl) rfl rfl rfl rfl rfl ?_
  (refine Ga ?_)
  refine W_draws (Grown _) rfl (by kernel_rfl) (grown_start _) ?_
  (refine Qb ?_)
  intro w9 hb9
  have b9 := Sx.Below.after (w := w) Bel hb9
  have s9 := hb9.size
  try simp only [Sx.sizes] at s9
  (refine Ga ?_)
  (apply retQ1; (focus rfl))
  exact ⟨rfl, Bel⟩
theorem law_ValueAdds (x y : Vl) (_ : x.Bd) (_ : y.Bd) (w : World) (hT : VTabs w) : Does Tryd.prog 6 #[x.v, y.v] w fun v w' => v = .bool true ∧ Below w.heap.size w w' := by
  have l1 := fun A => c_light x A
  have l2 := fun A => c_light y A
  have a1 := fun A => c_Add x y A
  have a2 := fun A => c_Add y x A
  have a3 := fun A => r_Add x y A
  rw [addV_comm y x] at a2
  have hk := addV_ok x y
  have hss : (addV x y).s.size < 140737488355328 := by
    have : (addV x y).s = ⟨#[]⟩ := by
      unfold addV
      split
      · rfl
      · cases numV x <;> cases numV y <;> rfl
    rw [this]
    decide
  generalize addV x y = z at a1 a2 a3 hk hss
  obtain ⟨k, n, f, s⟩ := x
  obtain ⟨k', n', f', s'⟩ := y
  obtain ⟨k2, n2, f2, t2⟩ := z
  have bq := fun A => c_bits ⟨k2, n2, f2, t2⟩ A
  have ck := fun A h => c_Check ⟨k2, n2, f2, t2⟩ A h hss
  rw [hk, if_pos rfl] at ck
  dsimp only at l1 l2
  refine Does_of (args := [.agg #[.int .i64 k, .int .i64 n, .float .f64 f, .string s], .agg #[.int .i64 k', .int .i64 n', .float .f64 f', .string s']]) Tryd.func6 (by kernel_rfl) rfl rfl rfl rfl rfl ?_
  (refine Ga ?_)
  (apply Lst_call; (focus rfl); (focus rfl))
  refine (c_known _ (hT.below Bel)).mono ?_
  rintro v w1 ⟨rfl, hb1⟩
  have b1 := Sx.Below.after (w := w) Bel hb1
  have s1 := hb1.size
  try simp only [Sx.sizes] at s1
  (refine Ga ?_)
  (apply Lst_call; (focus rfl); (focus rfl))
  refine (l1 _).mono ?_
  rintro v w2 ⟨rfl, hb2⟩
  have b2 := Sx.Below.after (w := w) Bel hb2
  have s2 := hb2.size
  try simp only [Sx.sizes] at s2
  by_cases h1 : s.size ≤ 6000
  · rw [decide_eq_true h1]
    (refine Ga ?_)
    (apply Lst_call; (focus rfl); (focus rfl))
    refine (l2 _).mono ?_
    rintro v w3 ⟨rfl, hb3⟩
    have b3 := Sx.Below.after (w := w) Bel hb3
    have s3 := hb3.size
    try simp only [Sx.sizes] at s3
    by_cases h2 : s'.size ≤ 6000
    · rw [decide_eq_true h2]
      (refine Ga ?_)
      (apply Lst_call; (focus rfl); (focus rfl))
      refine (a1 _).mono ?_
      rintro v w4 ⟨rfl, hb4⟩
      have b4 := Sx.Below.after (w := w) Bel hb4
      have s4 := hb4.size
      try simp only [Sx.sizes] at s4
      (refine Ga ?_)
      refine W_draws (Grown _) rfl (by kernel_rfl) (grown_start _) ?_
      (refine Qb ?_)
      apply Qst_call (.agg #[.int .i64 k2, .int .i64 n2, .float .f64 f2, .string t2])
      focus rfl
      focus rfl
      · intro A9 hb9
        exact (a3 A9).mono fun v w' h => ⟨h.1, Sx.Below.after hb9 h.2⟩
      (refine Qb ?_)
      apply Qst_call (.bool true)
      focus rfl
      focus rfl
      · intro A9 hb9
        exact (bq A9).mono fun v w' h => ⟨h.1, Sx.Below.after hb9 h.2⟩
      (refine Qb ?_)
      apply Qst_call (.agg #[.int .i64 k2, .int .i64 n2, .float .f64 f2, .string t2])
      focus rfl
      focus rfl
      · intro A9 hb9
        exact (a2 A9).mono fun v w' h => ⟨h.1, Sx.Below.after hb9 h.2⟩
      (refine Qb ?_)
      apply Qst_call (.bool true)
      focus rfl
      focus rfl
      · intro A9 hb9
        exact (bq A9).mono fun v w' h => ⟨h.1, Sx.Below.after hb9 h.2⟩
      (refine Qb ?_)
      apply Qst_call (.int .i64 0)
      focus rfl
      focus rfl
      · intro A9 hb9
        exact (ck A9 ((hT.below Bel).below hb9).utf).mono fun v w' h => ⟨h.1, Sx.Below.after hb9 h.2⟩
      (refine Qb ?_)
      intro w9 hb9
      have b9 := Sx.Below.after (w := w) Bel hb9
      have s9 := hb9.size
      try simp only [Sx.sizes] at s9
      (refine Ga ?_)
      (apply retQ1; (focus rfl))
      exact ⟨rfl, Bel⟩
    · rw [decide_eq_false h2]
      (refine Ga ?_)
      (apply retQ1; (focus rfl))
      exact ⟨rfl, Bel⟩
  · rw [decide_eq_false h1]
    (refine Ga ?_)
    (apply retQ1; (focus rfl))
    exact ⟨rfl, Bel⟩
theorem law_ValueCheck (x : Vl) (_ : x.Bd) (w : World) (hT : VTabs w) : Does Tryd.prog 3 #[x.v] w fun v w' => v = .bool true ∧ Below w.heap.size w w' := by
  have l1 := fun A => c_light x A
  have a1 := fun A => c_Clean x A
  have a2 := fun A => r_Check x A
  have ck := fun A h hs => c_Check x A h hs
  have hcl := cleanV_ok (x := x)
  obtain ⟨k, n, f, s⟩ := x
  have bt := fun A => c_bits ⟨k, n, f, s⟩ A
  dsimp only at l1 ck hcl
  refine Does_of (args := [.agg #[.int .i64 k, .int .i64 n, .float .f64 f, .string s]]) Tryd.func3 (by kernel_rfl) rfl rfl rfl rfl rfl ?_
  (refine Ga ?_)
  (apply Lst_call; (focus rfl); (focus rfl))
  refine (c_known _ (hT.below Bel)).mono ?_
  rintro v w1 ⟨rfl, hb1⟩
  have b1 := Sx.Below.after (w := w) Bel hb1
  have s1 := hb1.size
  try simp only [Sx.sizes] at s1
  (refine Ga ?_)
  (apply Lst_call; (focus rfl); (focus rfl))
  refine (l1 _).mono ?_
  rintro v w2 ⟨rfl, hb2⟩
  have b2 := Sx.Below.after (w := w) Bel hb2
  have s2 := hb2.size
  try simp only [Sx.sizes] at s2
  by_cases h1 : s.size ≤ 6000
  · rw [decide_eq_true h1]
    have ck' := fun A h => ck A h (by omega)
    clear ck
    have ho : ∃ e : Int, (if okV ⟨k, n, f, s⟩ = true then (0 : Int) else 20) = e ∧ (e = 0 → okV ⟨k, n, f, s⟩ = true) := by
      by_cases h : okV ⟨k, n, f, s⟩ = true
      · exact ⟨0, if_pos h, fun _ => h⟩
      · exact ⟨20, if_neg h, fun e => by omega⟩
    obtain ⟨e, he, hok⟩ := ho
    rw [he] at ck' a2
    by_cases hn : k = 3 ∧ isNaN f = true
    · obtain ⟨rfl, hf⟩ := hn
      have oa := ord_self_nan hf
      unfold cleanV at a1
      rw [nbits_nan hf] at a1
      (refine Ga ?_)
      (apply Lst_call; (focus rfl); (focus rfl))
      refine (a1 _).mono ?_
      rintro v w3 ⟨rfl, hb3⟩
      have b3 := Sx.Below.after (w := w) Bel hb3
      have s3 := hb3.size
      try simp only [Sx.sizes] at s3
      (refine Ga ?_)
      refine W_draws (Grown _) rfl (by kernel_rfl) (grown_start _) ?_
      (refine Qb ?_)
      apply Qst_call (.int .i64 e)
      focus rfl
      focus rfl
      · intro A9 hb9
        exact (ck' A9 ((hT.below Bel).below hb9).utf).mono fun v w' h => ⟨h.1, Sx.Below.after hb9 h.2⟩
      (refine Qb ?_)
      apply Qst_call (.int .i64 e)
      focus rfl
      focus rfl
      · intro A9 hb9
        exact (a2 A9).mono fun v w' h => ⟨h.1, Sx.Below.after hb9 h.2⟩
      (refine Qb ?_)
      intro w9 hb9
      have b9 := Sx.Below.after (w := w) Bel hb9
      have s9 := hb9.size
      try simp only [Sx.sizes] at s9
      (refine Ga ?_)
      (apply retQ1; (focus rfl))
      exact ⟨rfl, Bel⟩
    · have hcond : k ≠ 3 ∨ isNaN f = false := by
        by_cases h3 : k = 3
        · right
          cases hf : isNaN f
          · rfl
          · exact absurd ⟨h3, hf⟩ hn
        · exact .inl h3
      by_cases hk : okV ⟨k, n, f, s⟩ = true
      · rw [hcl hk hn] at a1
        have he0 : e = 0 := by rw [← he, if_pos hk]
        subst he0
        rcases hcond with h3 | hf
        · (refine Ga ?_)
          (apply Lst_call; (focus rfl); (focus rfl))
          refine (a1 _).mono ?_
          rintro v w3 ⟨rfl, hb3⟩
          have b3 := Sx.Below.after (w := w) Bel hb3
          have s3 := hb3.size
          try simp only [Sx.sizes] at s3
          (refine Ga ?_)
          refine W_draws (Grown _) rfl (by kernel_rfl) (grown_start _) ?_
          (refine Qb ?_)
          apply Qst_call (.int .i64 0)
          focus rfl
          focus rfl
          · intro A9 hb9
            exact (ck' A9 ((hT.below Bel).below hb9).utf).mono fun v w' h => ⟨h.1, Sx.Below.after hb9 h.2⟩
          (refine Qb ?_)
          apply Qst_call (.int .i64 0)
          focus rfl
          focus rfl
          · intro A9 hb9
            exact (a2 A9).mono fun v w' h => ⟨h.1, Sx.Below.after hb9 h.2⟩
          (refine Qb ?_)
          apply Qst_call (.int .i64 0)
          focus rfl
          focus rfl
          · intro A9 hb9
            exact (a2 A9).mono fun v w' h => ⟨h.1, Sx.Below.after hb9 h.2⟩
          (refine Qb ?_)
          apply Qst_call (.bool true)
          focus rfl
          focus rfl
          · intro A9 hb9
            exact (bt A9).mono fun v w' h => ⟨h.1, Sx.Below.after hb9 h.2⟩
          (refine Qb ?_)
          intro w9 hb9
          have b9 := Sx.Below.after (w := w) Bel hb9
          have s9 := hb9.size
          try simp only [Sx.sizes] at s9
          (refine Ga ?_)
          (apply retQ1; (focus rfl))
          exact ⟨rfl, Bel⟩
        · have oa := ord_self hf
          by_cases h3 : k = 3
          · (refine Ga ?_)
            (apply Lst_call; (focus rfl); (focus rfl))
            refine (a1 _).mono ?_
            rintro v w3 ⟨rfl, hb3⟩
            have b3 := Sx.Below.after (w := w) Bel hb3
            have s3 := hb3.size
            try simp only [Sx.sizes] at s3
            (refine Ga ?_)
            refine W_draws (Grown _) rfl (by kernel_rfl) (grown_start _) ?_
            (refine Qb ?_)
            apply Qst_call (.int .i64 0)
            focus rfl
            focus rfl
            · intro A9 hb9
              exact (ck' A9 ((hT.below Bel).below hb9).utf).mono fun v w' h => ⟨h.1, Sx.Below.after hb9 h.2⟩
            (refine Qb ?_)
            apply Qst_call (.int .i64 0)
            focus rfl
            focus rfl
            · intro A9 hb9
              exact (a2 A9).mono fun v w' h => ⟨h.1, Sx.Below.after hb9 h.2⟩
            (refine Qb ?_)
            apply Qst_call (.int .i64 0)
            focus rfl
            focus rfl
            · intro A9 hb9
              exact (a2 A9).mono fun v w' h => ⟨h.1, Sx.Below.after hb9 h.2⟩
            (refine Qb ?_)
            apply Qst_call (.bool true)
            focus rfl
            focus rfl
            · intro A9 hb9
              exact (bt A9).mono fun v w' h => ⟨h.1, Sx.Below.after hb9 h.2⟩
            (refine Qb ?_)
            intro w9 hb9
            have b9 := Sx.Below.after (w := w) Bel hb9
            have s9 := hb9.size
            try simp only [Sx.sizes] at s9
            (refine Ga ?_)
            (apply retQ1; (focus rfl))
            exact ⟨rfl, Bel⟩
          · (refine Ga ?_)
            (apply Lst_call; (focus rfl); (focus rfl))
            refine (a1 _).mono ?_
            rintro v w3 ⟨rfl, hb3⟩
            have b3 := Sx.Below.after (w := w) Bel hb3
            have s3 := hb3.size
            try simp only [Sx.sizes] at s3
            (refine Ga ?_)
            refine W_draws (Grown _) rfl (by kernel_rfl) (grown_start _) ?_
            (refine Qb ?_)
            apply Qst_call (.int .i64 0)
            focus rfl
            focus rfl
            · intro A9 hb9
              exact (ck' A9 ((hT.below Bel).below hb9).utf).mono fun v w' h => ⟨h.1, Sx.Below.after hb9 h.2⟩
            (refine Qb ?_)
            apply Qst_call (.int .i64 0)
            focus rfl
            focus rfl
            · intro A9 hb9
              exact (a2 A9).mono fun v w' h => ⟨h.1, Sx.Below.after hb9 h.2⟩
            (refine Qb ?_)
            apply Qst_call (.int .i64 0)
            focus rfl
            focus rfl
            · intro A9 hb9
              exact (a2 A9).mono fun v w' h => ⟨h.1, Sx.Below.after hb9 h.2⟩
            (refine Qb ?_)
            apply Qst_call (.bool true)
            focus rfl
            focus rfl
            · intro A9 hb9
              exact (bt A9).mono fun v w' h => ⟨h.1, Sx.Below.after hb9 h.2⟩
            (refine Qb ?_)
            intro w9 hb9
            have b9 := Sx.Below.after (w := w) Bel hb9
            have s9 := hb9.size
            try simp only [Sx.sizes] at s9
            (refine Ga ?_)
            (apply retQ1; (focus rfl))
            exact ⟨rfl, Bel⟩
      · have he0 : e = 20 := by rw [← he, if_neg hk]
        subst he0
        unfold cleanV at a1
        rcases hcond with h3 | hf
        · (refine Ga ?_)
          (apply Lst_call; (focus rfl); (focus rfl))
          refine (a1 _).mono ?_
          rintro v w3 ⟨rfl, hb3⟩
          have b3 := Sx.Below.after (w := w) Bel hb3
          have s3 := hb3.size
          try simp only [Sx.sizes] at s3
          (refine Ga ?_)
          refine W_draws (Grown _) rfl (by kernel_rfl) (grown_start _) ?_
          (refine Qb ?_)
          apply Qst_call (.int .i64 20)
          focus rfl
          focus rfl
          · intro A9 hb9
            exact (ck' A9 ((hT.below Bel).below hb9).utf).mono fun v w' h => ⟨h.1, Sx.Below.after hb9 h.2⟩
          (refine Qb ?_)
          apply Qst_call (.int .i64 20)
          focus rfl
          focus rfl
          · intro A9 hb9
            exact (a2 A9).mono fun v w' h => ⟨h.1, Sx.Below.after hb9 h.2⟩
          (refine Qb ?_)
          apply Qst_call (.int .i64 20)
          focus rfl
          focus rfl
          · intro A9 hb9
            exact (a2 A9).mono fun v w' h => ⟨h.1, Sx.Below.after hb9 h.2⟩
          (refine Qb ?_)
          intro w9 hb9
          have b9 := Sx.Below.after (w := w) Bel hb9
          have s9 := hb9.size
          try simp only [Sx.sizes] at s9
          (refine Ga ?_)
          (apply retQ1; (focus rfl))
          exact ⟨rfl, Bel⟩
        · have oa := ord_self hf
          by_cases h3 : k = 3
          · (refine Ga ?_)
            (apply Lst_call; (focus rfl); (focus rfl))
            refine (a1 _).mono ?_
            rintro v w3 ⟨rfl, hb3⟩
            have b3 := Sx.Below.after (w := w) Bel hb3
            have s3 := hb3.size
            try simp only [Sx.sizes] at s3
            (refine Ga ?_)
            refine W_draws (Grown _) rfl (by kernel_rfl) (grown_start _) ?_
            (refine Qb ?_)
            apply Qst_call (.int .i64 20)
            focus rfl
            focus rfl
            · intro A9 hb9
              exact (ck' A9 ((hT.below Bel).below hb9).utf).mono fun v w' h => ⟨h.1, Sx.Below.after hb9 h.2⟩
            (refine Qb ?_)
            apply Qst_call (.int .i64 20)
            focus rfl
            focus rfl
            · intro A9 hb9
              exact (a2 A9).mono fun v w' h => ⟨h.1, Sx.Below.after hb9 h.2⟩
            (refine Qb ?_)
            apply Qst_call (.int .i64 20)
            focus rfl
            focus rfl
            · intro A9 hb9
              exact (a2 A9).mono fun v w' h => ⟨h.1, Sx.Below.after hb9 h.2⟩
            (refine Qb ?_)
            intro w9 hb9
            have b9 := Sx.Below.after (w := w) Bel hb9
            have s9 := hb9.size
            try simp only [Sx.sizes] at s9
            (refine Ga ?_)
            (apply retQ1; (focus rfl))
            exact ⟨rfl, Bel⟩
          · (refine Ga ?_)
            (apply Lst_call; (focus rfl); (focus rfl))
            refine (a1 _).mono ?_
            rintro v w3 ⟨rfl, hb3⟩
            have b3 := Sx.Below.after (w := w) Bel hb3
            have s3 := hb3.size
            try simp only [Sx.sizes] at s3
            (refine Ga ?_)
            refine W_draws (Grown _) rfl (by kernel_rfl) (grown_start _) ?_
            (refine Qb ?_)
            apply Qst_call (.int .i64 20)
            focus rfl
            focus rfl
            · intro A9 hb9
              exact (ck' A9 ((hT.below Bel).below hb9).utf).mono fun v w' h => ⟨h.1, Sx.Below.after hb9 h.2⟩
            (refine Qb ?_)
            apply Qst_call (.int .i64 20)
            focus rfl
            focus rfl
            · intro A9 hb9
              exact (a2 A9).mono fun v w' h => ⟨h.1, Sx.Below.after hb9 h.2⟩
            (refine Qb ?_)
            apply Qst_call (.int .i64 20)
            focus rfl
            focus rfl
            · intro A9 hb9
              exact (a2 A9).mono fun v w' h => ⟨h.1, Sx.Below.after hb9 h.2⟩
            (refine Qb ?_)
            intro w9 hb9
            have b9 := Sx.Below.after (w := w) Bel hb9
            have s9 := hb9.size
            try simp only [Sx.sizes] at s9
            (refine Ga ?_)
            (apply retQ1; (focus rfl))
            exact ⟨rfl, Bel⟩
  · rw [decide_eq_false h1]
    (refine Ga ?_)
    (apply retQ1; (focus rfl))
    exact ⟨rfl, Bel⟩
end Val
end Go.Proofs.YtnlmilcfmalodaaDoor
