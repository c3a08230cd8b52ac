/- ValueOrder: values in one order, plainly; the walk of the law. -/
import Derived.Test.YtnlmilcfmalodaaDoorKnown
import Derived.Test.YtnlmilcfmalodaaDoorVal6
import Derived.Test.YtnlmilcfmalodaaDoorSxQ
namespace Go.Proofs.YtnlmilcfmalodaaDoor
set_option maxRecDepth 100000
namespace Val
open Go Go.RowKit Sx Fl Hex
/-- How three comparisons hang together. -/
def Tr (p q r : Int) : Prop := p ≤ 0 → q ≤ 0 → r ≤ 0 ∧ (r = 0 → p = 0 ∧ q = 0)
theorem cmpI_neg (a b : Int) : cmpI b a = -cmpI a b := by
  unfold cmpI
  split <;> split <;> (try split) <;> omega
theorem cmpI_tr (a b c : Int) : Tr (cmpI a b) (cmpI b c) (cmpI a c) := by
  intro h1 h2
  unfold cmpI at *
  split at h1 <;> split at h2 <;> split <;> (try split at h1) <;> (try split at h2) <;> (try split) <;> omega
theorem cmpB_neg : ∀ a b : List UInt8, Lib.compareBytes b a = -Lib.compareBytes a b
  | [], [] => rfl
  | [], _ :: _ => rfl
  | _ :: _, [] => rfl
  | x :: a, y :: b => by
    have ih := cmpB_neg a b
    unfold Lib.compareBytes
    by_cases h : x < y
    · have h' : ¬ y < x := fun e => UInt8.lt_irrefl x (UInt8.lt_trans h e)
      simp [h, h']
    · by_cases h' : y < x
      · simp [h, h']
      · simp [h, h', ih]
theorem cmpB_tr : ∀ a b c : List UInt8, Tr (Lib.compareBytes a b) (Lib.compareBytes b c) (Lib.compareBytes a c)
  | [], [], [] => fun _ _ => ⟨by decide, fun _ => ⟨rfl, rfl⟩⟩
  | [], [], _ :: _ => fun _ _ => ⟨by simp [Lib.compareBytes], fun h => by simp [Lib.compareBytes] at h⟩
  | [], _ :: _, [] => fun _ h => by simp [Lib.compareBytes] at h
  | [], _ :: _, _ :: _ => fun _ _ => ⟨by simp [Lib.compareBytes], fun h => by simp [Lib.compareBytes] at h⟩
  | _ :: _, [], _ => fun h _ => by simp [Lib.compareBytes] at h
  | _ :: _, _ :: _, [] => fun _ h => by simp [Lib.compareBytes] at h
  | x :: a, y :: b, z :: c => by
    have ih := cmpB_tr a b c
    intro h1 h2
    unfold Lib.compareBytes at h1 h2 ⊢
    by_cases e1 : x < y
    · by_cases e2 : y < z
      · have e3 := UInt8.lt_trans e1 e2
        simp [e3]
      · by_cases e2' : z < y
        · simp [e2, e2'] at h2
        · have : y = z := UInt8.le_antisymm (UInt8.not_lt.1 e2') (UInt8.not_lt.1 e2)
          subst this
          simp [e1]
    · by_cases e1' : y < x
      · simp [e1, e1'] at h1
      · have : x = y := UInt8.le_antisymm (UInt8.not_lt.1 e1') (UInt8.not_lt.1 e1)
        subst this
        by_cases e2 : x < z
        · simp [e2]
        · by_cases e2' : z < x
          · simp [e2, e2'] at h2
          · simp only [e1, e2, e2', if_false] at h1 h2 ⊢
            exact ih h1 h2
theorem cmpV_eq (x y : Vl) : cmpV x y = if cmpI x.k y.k ≠ 0 then cmpI x.k y.k else if cmpI x.n y.n ≠ 0 then cmpI x.n y.n else if cmpI (K x.f) (K y.f) ≠ 0 then cmpI (K x.f) (K y.f) else cmpS x.s y.s := by
  unfold cmpV
  simp only [orL]
  split <;> (try rfl)
  split <;> (try rfl)
  split <;> (try rfl)
  split <;> (try rfl)
  rename_i h
  omega
theorem or0 {p p' : Int} (h : p = 0) : (if p ≠ 0 then p else p') = p' := if_neg (by omega)
theorem or1 {p p' : Int} (h : ¬ p = 0) : (if p ≠ 0 then p else p') = p := if_pos h
theorem tr_or {p q r p' q' r' : Int} (h : Tr p q r) (h' : Tr p' q' r') : Tr (if p ≠ 0 then p else p') (if q ≠ 0 then q else q') (if r ≠ 0 then r else r') := by
  intro h1 h2
  by_cases hp : p = 0 <;> by_cases hq : q = 0
  · rw [or0 (p' := p') hp] at h1 ⊢
    rw [or0 (p' := q') hq] at h2 ⊢
    have a := h (by omega) (by omega)
    have b := h' h1 h2
    by_cases hr : r = 0
    · rw [or0 (p' := r') hr]; exact b
    · rw [or1 (p' := r') hr]; exact ⟨a.1, fun e => absurd e hr⟩
  · rw [or0 (p' := p') hp] at h1 ⊢
    rw [or1 (p' := q') hq] at h2 ⊢
    have a := h (by omega) h2
    have hr : ¬ r = 0 := fun e => hq (a.2 e).2
    rw [or1 (p' := r') hr]
    exact ⟨a.1, fun e => absurd e hr⟩
  · rw [or1 (p' := p') hp] at h1 ⊢
    rw [or0 (p' := q') hq] at h2 ⊢
    have a := h h1 (by omega)
    have hr : ¬ r = 0 := fun e => hp (a.2 e).1
    rw [or1 (p' := r') hr]
    exact ⟨a.1, fun e => absurd e hr⟩
  · rw [or1 (p' := p') hp] at h1 ⊢
    rw [or1 (p' := q') hq] at h2 ⊢
    have a := h h1 h2
    have hr : ¬ r = 0 := fun e => hp (a.2 e).1
    rw [or1 (p' := r') hr]
    exact ⟨a.1, fun e => absurd e hr⟩
theorem cmpV_tr (x y z : Vl) : Tr (cmpV x y) (cmpV y z) (cmpV x z) := by
  rw [cmpV_eq, cmpV_eq, cmpV_eq]
  exact tr_or (cmpI_tr _ _ _) (tr_or (cmpI_tr _ _ _) (tr_or (cmpI_tr _ _ _) (cmpB_tr _ _ _)))
theorem cmpS_neg (s t : ByteArray) : cmpS t s = -cmpS s t := cmpB_neg _ _
theorem cmpV_neg (x y : Vl) : cmpV y x = -cmpV x y := by
  rw [cmpV_eq, cmpV_eq, cmpI_neg x.k y.k, cmpI_neg x.n y.n, cmpI_neg (K x.f) (K y.f), cmpS_neg x.s y.s]
  split <;> split <;> (try omega)
theorem cmpV_self (x : Vl) : cmpV x x = 0 := by
  have := cmpV_neg x x
  omega
theorem cmpV_range (x y : Vl) : -1 ≤ cmpV x y ∧ cmpV x y ≤ 1 := by
  have h : ∀ a b, -1 ≤ cmpI a b ∧ cmpI a b ≤ 1 := fun a b => by
    unfold cmpI
    split <;> (try split) <;> omega
  have hs := cmpS_cases x.s y.s
  rw [cmpV_eq]
  have h1 := h x.k y.k
  have h2 := h x.n y.n
  have h3 := h (K x.f) (K y.f)
  split
  · exact h1
  split
  · exact h2
  split
  · exact h3
  omega
/-- The worlds that grew out of one. -/
abbrev Grown (X A : World) : Prop := Below X.heap.size X A
theorem grown_start (X : World) : Grown X X.drew := (Below.refl _ _).drew
def Vl.Bd (x : Vl) : Prop := (-9223372036854775808 ≤ x.k ∧ x.k < 9223372036854775808) ∧ (-9223372036854775808 ≤ x.n ∧ x.n < 9223372036854775808) ∧ x.f < 18446744073709551616
theorem Vl.Bd.fit {x : Vl} (h : x.Bd) (hs : x.s.size ≤ 6000) : x.Fit := ⟨h.1.1, h.1.2, h.2.1.1, h.2.1.2, h.2.2, by omega⟩
attribute [local irreducible] W Lst Qst Pu seqQ blkQ rndQ cutQ retQ Does Enters IntKind.wrap bits sb World.alloc World.putObj Blk
theorem c_light (x : Vl) (w : World) : Does Tryd.prog 11 #[x.v] w fun v w' => v = .bool (decide (x.s.size ≤ 6000)) ∧ Below w.heap.size w w' := by
  obtain ⟨k, n, f, s⟩ := x
  refine Does_of (args := [.agg #[.int .i64 k, .int .i64 n, .float .f64 f, .string s]]) Tryd.func11 (by kernel_rfl) rfl rfl rfl rfl rfl ?_
  by_cases h : s.size ≤ 6000
  · (refine Ga ?_)
    (apply retQ1; (focus rfl))
    exact ⟨by rw [decide_eq_true (by exact h)]; rfl, Bel⟩
  · (refine Ga ?_)
    (apply retQ1; (focus rfl))
    exact ⟨by rw [decide_eq_false (by exact h)]; rfl, Bel⟩
theorem law_ValueOrder (x y z : Vl) (hx : x.Bd) (hy : y.Bd) (hz : z.Bd) (w : World) (hT : VTabs w) : Does Tryd.prog 4 #[x.v, y.v, z.v] w fun v w' => v = .bool true ∧ Below w.heap.size w w' := by
  obtain ⟨k, n, f, s⟩ := x
  obtain ⟨k', n', f', s'⟩ := y
  obtain ⟨k2, n2, f2, t2⟩ := z
  have l1 := fun A => c_light ⟨k, n, f, s⟩ A
  have l2 := fun A => c_light ⟨k', n', f', s'⟩ A
  have l3 := fun A => c_light ⟨k2, n2, f2, t2⟩ A
  refine Does_of (args := [.agg #[.int .i64 k, .int .i64 n, .float .f64 f, .string s], .agg #[.int .i64 k', .int .i64 n', .float .f64 f', .string s'], .agg #[.int .i64 k2, .int .i64 n2, .float .f64 f2, .string t2]]) Tryd.func4 (by kernel_rfl) rfl rfl rfl rfl rfl ?_
  dsimp only at l1 l2 l3
  (refine Ga ?_)
  (apply Lst_call; (focus rfl); (focus rfl))
  refine (c_known _ (hT.below Bel)).mono ?_
  rintro v w1 ⟨rfl, hb1⟩
  have b1 := Sx.Below.after (w := w) Bel hb1
  have s1 := hb1.size
  try simp only [Sx.sizes] at s1
  (refine Ga ?_)
  (apply Lst_call; (focus rfl); (focus rfl))
  refine (l1 _).mono ?_
  rintro v w2 ⟨rfl, hb2⟩
  have b2 := Sx.Below.after (w := w) Bel hb2
  have s2 := hb2.size
  try simp only [Sx.sizes] at s2
  by_cases h1 : s.size ≤ 6000
  · rw [decide_eq_true h1]
    (refine Ga ?_)
    (apply Lst_call; (focus rfl); (focus rfl))
    refine (l2 _).mono ?_
    rintro v w3 ⟨rfl, hb3⟩
    have b3 := Sx.Below.after (w := w) Bel hb3
    have s3 := hb3.size
    try simp only [Sx.sizes] at s3
    by_cases h2 : s'.size ≤ 6000
    · rw [decide_eq_true h2]
      (refine Ga ?_)
      (apply Lst_call; (focus rfl); (focus rfl))
      refine (l3 _).mono ?_
      rintro v w4 ⟨rfl, hb4⟩
      have b4 := Sx.Below.after (w := w) Bel hb4
      have s4 := hb4.size
      try simp only [Sx.sizes] at s4
      by_cases h3 : t2.size ≤ 6000
      · rw [decide_eq_true h3]
        have fx := hx.fit h1
        have fy := hy.fit h2
        have fz := hz.fit h3
        have xy := fun A => c_Cmp _ _ fx fy A
        have yz := fun A => c_Cmp _ _ fy fz A
        have xz := fun A => c_Cmp _ _ fx fz A
        have yx := fun A => c_Cmp _ _ fy fx A
        have xx := fun A => c_Cmp _ _ fx fx A
        have sm := fun A => c_Same _ _ fx fy A
        have rr := fun A => r_Cmp _ _ fx fy A
        have htr := cmpV_tr ⟨k, n, f, s⟩ ⟨k', n', f', s'⟩ ⟨k2, n2, f2, t2⟩
        have hr1 := cmpV_range ⟨k, n, f, s⟩ ⟨k', n', f', s'⟩
        rw [cmpV_self] at xx
        rw [cmpV_neg ⟨k, n, f, s⟩ ⟨k', n', f', s'⟩] at yx
        generalize cmpV ⟨k, n, f, s⟩ ⟨k', n', f', s'⟩ = p at xy yx sm rr htr hr1
        generalize cmpV ⟨k', n', f', s'⟩ ⟨k2, n2, f2, t2⟩ = q at yz htr
        generalize cmpV ⟨k, n, f, s⟩ ⟨k2, n2, f2, t2⟩ = r at xz htr
        have hp : p = -1 ∨ p = 0 ∨ p = 1 := by omega
        have hneg : IntKind.i64.wrap (0 - -p) = p := wi64 (by omega) (by omega) |>.trans (by omega)
        (refine Ga ?_)
        refine W_draws (Grown _) rfl (by kernel_rfl) (grown_start _) ?_
        (refine Qb ?_)
        apply Qst_call (.int .i64 p)
        focus rfl
        focus rfl
        · intro A9 hb9
          exact (xy A9).mono fun v w' h => ⟨h.1, Sx.Below.after hb9 h.2⟩
        (refine Qb ?_)
        apply Qst_call (.int .i64 q)
        focus rfl
        focus rfl
        · intro A9 hb9
          exact (yz A9).mono fun v w' h => ⟨h.1, Sx.Below.after hb9 h.2⟩
        (refine Qb ?_)
        apply Qst_call (.int .i64 r)
        focus rfl
        focus rfl
        · intro A9 hb9
          exact (xz A9).mono fun v w' h => ⟨h.1, Sx.Below.after hb9 h.2⟩
        (refine Qb ?_)
        intro w9 hb9
        have b9 := Sx.Below.after (w := w) Bel hb9
        have s9 := hb9.size
        try simp only [Sx.sizes] at s9
        (refine Ga ?_)
        (apply Lst_call; (focus rfl); (focus rfl))
        refine (rr _).mono ?_
        rintro v w5 ⟨rfl, hb5⟩
        have b5 := Sx.Below.after (w := w) Bel hb5
        have s5 := hb5.size
        try simp only [Sx.sizes] at s5
        (refine Ga ?_)
        (apply Lst_call; (focus rfl); (focus rfl))
        refine (yx _).mono ?_
        rintro v w6 ⟨rfl, hb6⟩
        have b6 := Sx.Below.after (w := w) Bel hb6
        have s6 := hb6.size
        try simp only [Sx.sizes] at s6
        (refine Ga ?_)
        (apply Lst_call; (focus rfl); (focus rfl))
        refine (xx _).mono ?_
        rintro v w7 ⟨rfl, hb7⟩
        have b7 := Sx.Below.after (w := w) Bel hb7
        have s7 := hb7.size
        try simp only [Sx.sizes] at s7
        (refine Ga ?_)
        (apply Lst_call; (focus rfl); (focus rfl))
        refine (sm _).mono ?_
        rintro v w8 ⟨rfl, hb8⟩
        have b8 := Sx.Below.after (w := w) Bel hb8
        have s8 := hb8.size
        try simp only [Sx.sizes] at s8
        by_cases hp0 : p = 0
        · rw [decide_eq_true hp0]
          by_cases hq0 : 0 < q
          · (refine Ga ?_)
            (apply retQ1; (focus rfl))
            exact ⟨rfl, Bel⟩
          · have hr0 : r ≤ 0 := (htr (by omega) (by omega)).1
            (refine Ga ?_)
            (apply retQ1; (focus rfl))
            exact ⟨rfl, Bel⟩
        · rw [decide_eq_false hp0]
          by_cases hp1 : 0 < p
          · (refine Ga ?_)
            (apply retQ1; (focus rfl))
            exact ⟨rfl, Bel⟩
          · by_cases hq0 : 0 < q
            · (refine Ga ?_)
              (apply retQ1; (focus rfl))
              exact ⟨rfl, Bel⟩
            · have hr0 : r ≤ 0 := (htr (by omega) (by omega)).1
              (refine Ga ?_)
              (apply retQ1; (focus rfl))
              exact ⟨rfl, Bel⟩
      · rw [decide_eq_false h3]
        (refine Ga ?_)
        (apply retQ1; (focus rfl))
        exact ⟨rfl, Bel⟩
    · rw [decide_eq_false h2]
      (refine Ga ?_)
      (apply retQ1; (focus rfl))
      exact ⟨rfl, Bel⟩
  · rw [decide_eq_false h1]
    (refine Ga ?_)
    (apply retQ1; (focus rfl))
    exact ⟨rfl, Bel⟩
end Val
end Go.Proofs.YtnlmilcfmalodaaDoor
