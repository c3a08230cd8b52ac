/- ValueNoughts: the walk of the law. -/
import Derived.Test.YtnlmilcfmalodaaDoorOrder
import Derived.Test.YtnlmilcfmalodaaDoorNought
namespace Go.Proofs.YtnlmilcfmalodaaDoor
set_option maxRecDepth 100000
namespace Val
open Go Go.RowKit Sx Fl Hex
theorem andn (f : Nat) (hf : f < 18446744073709551616) : bits .andNot .u64 (f : Int) 9223372036854775808 = (rung f : Int) := by
  have e1 : (BitVec.ofInt 64 (f : Int)).toNat = f := by
    rw [BitVec.toNat_ofInt]; omega
  have e2 : (~~~ (BitVec.ofInt 64 9223372036854775808)).toNat = 2 ^ 63 - 1 := by decide
  show IntKind.u64.wrap ((BitVec.ofInt 64 (f : Int) &&& ~~~ (BitVec.ofInt 64 9223372036854775808)).toNat : Int) = _
  rw [BitVec.toNat_and, e1, e2, Nat.and_two_pow_sub_one_eq_mod]
  unfold rung
  rw [show (2 : Nat) ^ 63 = 9223372036854775808 by rfl]
  exact wu64 (by omega) (by omega)
theorem sk_rung (f : Nat) : sk (rung f) = (rung f : Int) ∧ rung (rung f) = rung f := by
  have h : rung f < 9223372036854775808 := Nat.mod_lt _ (by omega)
  have h2 : rung (rung f) = rung f := Nat.mod_eq_of_lt h
  refine ⟨?_, h2⟩
  unfold sk
  rw [h2]
  have : sgn (rung f) = false := by unfold sgn; rw [Nat.div_eq_of_lt h]; rfl
  rw [this, if_neg (by simp)]
theorem y1 : cmpV (fv 9223372036854775808) (fv 0) = -1 := x1
theorem y2 : textV (fv 9223372036854775808) = [102, 56, 48, 48, 48, 48, 48, 48, 48, 48, 48, 48, 48, 48, 48, 48, 48] := by decide
theorem y3 : textV (fv 0) = [102, 48, 48, 48, 48, 48, 48, 48, 48, 48, 48, 48, 48, 48, 48, 48, 48] := by decide
theorem sum_opp (f : Nat) (hf : f < 18446744073709551616) (h : rung f < 9218868437227405312) : addV (fv f) (fv (negf f)) = fv 0 := by
  have e : addV (fv f) (fv (negf f)) = ⟨3, 0, sumF f (negf f), ⟨#[]⟩⟩ := rfl
  rw [e, sumF_some (add_opp f hf h)]
  rfl
theorem sum_mnought (n : Int) : addV ⟨2, n, 0, ⟨#[]⟩⟩ (fv 9223372036854775808) = fv (FloatKind.f64.nearest n) := by
  have h := nearest_num n
  have e : addV ⟨2, n, 0, ⟨#[]⟩⟩ (fv 9223372036854775808) = ⟨3, 0, sumF (FloatKind.f64.nearest n) 9223372036854775808, ⟨#[]⟩⟩ := rfl
  rw [e, sumF_some (add_mnought _ h.2 h.1)]
  unfold nbits
  rw [if_neg (by rw [h.1]; simp)]
  rfl
theorem cmp_fv' (a b : Nat) : cmpV (fv a) (fv b) = cmpI (K a) (K b) := by
  unfold cmpV
  have e1 : cmpI (fv a).k (fv b).k = 0 := rfl
  have e2 : cmpI (fv a).n (fv b).n = 0 := rfl
  have e3 : cmpS (fv a).s (fv b).s = 0 := rfl
  rw [e1, e2, e3]
  show orL [0, 0, cmpI (K a) (K b), 0] = _
  simp [orL]
  intro h
  exact h.symm
theorem no_between (f : Nat) : ¬ (cmpV (fv 9223372036854775808) (fv f) < 0 ∧ cmpV (fv f) (fv 0) < 0) := by
  rw [cmp_fv', cmp_fv']
  have e1 : K 9223372036854775808 = -1 := by decide
  have e2 : K 0 = 0 := by decide
  rw [e1, e2]
  unfold cmpI
  rintro ⟨h1, h2⟩
  split at h1 <;> split at h2 <;> (try split at h1) <;> (try split at h2) <;> omega
attribute [local irreducible] W Lst Qst Pu seqQ blkQ rndQ cutQ retQ Does Enters IntKind.wrap bits sb World.alloc World.putObj Blk
theorem c_Abs (f : Nat) (hf : f < 18446744073709551616) (w : World) : Does Tryd.prog 46 #[.float .f64 f] w fun v w' => v = .float .f64 (rung f) ∧ w = w' := by
  refine Does_of (args := [.float .f64 f]) Tryd.func46 (by kernel_rfl) rfl rfl rfl rfl rfl ?_
  have h := andn f hf
  (refine Ga ?_)
  apply Lst_pu
  · apply P_andNot
    focus rfl
    focus rfl
    exact h
  focus rfl
  (refine Ga ?_)
  (apply retQ1; (focus rfl))
  exact ⟨rfl, rfl⟩
theorem c_IsInf (f : Nat) (hf : f < 18446744073709551616) (hn : isNaN f = false) (w : World) : Does Tryd.prog 24 #[.float .f64 f, .int .i64 0] w fun v w' => v = .bool (decide (¬ rung f < 9218868437227405312)) ∧ w = w' := by
  refine Does_of (args := [.float .f64 f, .int .i64 0]) Tryd.func24 (by kernel_rfl) rfl rfl rfl rfl rfl ?_
  have hs := sk_rung f
  have hn' : isNaN (rung f) = false := by unfold isNaN at hn ⊢; rw [hs.2]; exact hn
  have o := order_eq (rung f) 9218868437227405311 hn' (by decide)
  have hk : sk 9218868437227405311 = 9218868437227405311 := by decide
  rw [hk, hs.1] at o
  by_cases h : rung f < 9218868437227405312
  · rw [decide_eq_false (fun e => e h)]
    by_cases h' : rung f = 9218868437227405311
    · rw [cmp_eq (by omega)] at o
      (refine Ga ?_)
      (apply Lst_call; (focus rfl); (focus rfl))
      refine (c_Abs f hf _).mono ?_
      rintro v w' ⟨rfl, rfl⟩
      (refine Ga ?_)
      (apply retQ1; (focus rfl))
      exact ⟨rfl, rfl⟩
    · rw [cmp_lt (by omega)] at o
      (refine Ga ?_)
      (apply Lst_call; (focus rfl); (focus rfl))
      refine (c_Abs f hf _).mono ?_
      rintro v w' ⟨rfl, rfl⟩
      (refine Ga ?_)
      (apply retQ1; (focus rfl))
      exact ⟨rfl, rfl⟩
  · rw [decide_eq_true h]
    rw [cmp_gt (by omega)] at o
    (refine Ga ?_)
    (apply Lst_call; (focus rfl); (focus rfl))
    refine (c_Abs f hf _).mono ?_
    rintro v w' ⟨rfl, rfl⟩
    (refine Ga ?_)
    (apply retQ1; (focus rfl))
    exact ⟨rfl, rfl⟩
theorem law_ValueNoughts (f : Nat) (n : Int) (hf : f < 18446744073709551616) (_ : -9223372036854775808 ≤ n ∧ n < 9223372036854775808) (w : World) (hT : VTabs w) : Does Tryd.prog 7 #[.int .u64 (f : Int), .int .i64 n] w fun v w' => v = .bool true ∧ Below w.heap.size w w' := by
  refine Does_of (args := [.int .u64 (f : Int), .int .i64 n]) Tryd.func7 (by kernel_rfl) rfl rfl rfl rfl rfl ?_
  have ef : ((f : Nat) : Int).toNat = f := Int.toNat_natCast f
  have em : ((9223372036854775808 : Int)).toNat = 9223372036854775808 := rfl
  cases hn : isNaN f
  · have oa := ord_self hn
    by_cases hi : rung f < 9218868437227405312
    · have ci := fun A => c_IsInf f hf hn A
      rw [decide_eq_false (fun e => e hi)] at ci
      have hnf : negf f < 18446744073709551616 := by
        have h1 := rung_neg f
        have h2 := word_back f hf
        have h3 : negf f < 2 ^ 64 := Nat.xor_lt_two_pow (by omega) (by omega)
        omega
      have a1 := fun A => c_Add (fv f) (fv (negf f)) A
      rw [sum_opp f hf hi] at a1
      change ∀ A : World, Does Tryd.prog 22 _ A (fun v w' => v = .agg #[.int .i64 3, .int .i64 0, .float .f64 0, .string ⟨#[]⟩] ∧ Below A.heap.size A w') at a1
      have a2 := fun A => c_Add ⟨2, n, 0, ⟨#[]⟩⟩ (fv 9223372036854775808) A
      rw [sum_mnought] at a2
      have hnn := nearest_num n
      have on := ord_self hnn.1
      have tf : ∀ A, Does Tryd.prog 22 #[Vl.v ⟨2, n, 0, ⟨#[]⟩⟩, (fv 9223372036854775808).v] A (fun v w' => v = .agg #[.int .i64 3, .int .i64 0, .float .f64 (FloatKind.f64.nearest n), .string ⟨#[]⟩] ∧ Below A.heap.size A w') := a2
      clear a2
      generalize hne : FloatKind.f64.nearest n = m at tf on
      have on' : Ieee.double.order m (FloatKind.f64.nearest n) = some .eq := by rw [hne]; exact on
      have m1 := fun A => c_Cmp (fv 9223372036854775808) (fv f) (fv_fit (by decide)) (fv_fit hf) A
      have m2 := fun A => c_Cmp (fv f) (fv 0) (fv_fit hf) (fv_fit (by decide)) A
      have nb := no_between f
      generalize cmpV (fv 9223372036854775808) (fv f) = p at m1 nb
      generalize cmpV (fv f) (fv 0) = q at m2 nb
      have sm := fun A => c_Same (fv 9223372036854775808) (fv 0) (fv_fit (by decide)) (fv_fit (by decide)) A
      rw [y1] at sm
      have t1 := fun A h => c_Text (fv 9223372036854775808) (fv_fit (by decide)) (by decide) A h
      rw [y2] at t1
      have t2 := fun A h => c_Text (fv 0) (fv_fit (by decide)) (by decide) A h
      rw [y3] at t2
      have tne : (⟨#[102, 56, 48, 48, 48, 48, 48, 48, 48, 48, 48, 48, 48, 48, 48, 48, 48]⟩ : ByteArray) ≠ ⟨#[102, 48, 48, 48, 48, 48, 48, 48, 48, 48, 48, 48, 48, 48, 48, 48, 48]⟩ := by decide
      (refine Ga ?_)
      (apply Lst_call; (focus rfl); (focus rfl))
      refine (c_known _ hT).mono ?_
      rintro v w1 ⟨rfl, hb1⟩
      have b1 := Sx.Below.after (w := w) Bel hb1
      have s1 := hb1.size
      try simp only [Sx.sizes] at s1
      (refine Ga ?_)
      (apply Lst_call; (focus rfl); (focus rfl))
      refine (ci _).mono ?_
      rintro v w' ⟨rfl, rfl⟩
      (refine Ga ?_)
      (apply Lst_call; (focus rfl); (focus rfl))
      refine (c_fv f _).mono ?_
      rintro v w2 ⟨rfl, hb2⟩
      have b2 := Sx.Below.after (w := w) Bel hb2
      have s2 := hb2.size
      try simp only [Sx.sizes] at s2
      (refine Ga ?_)
      (apply Lst_call; (focus rfl); (focus rfl))
      refine (c_fv (negf f) _).mono ?_
      rintro v w3 ⟨rfl, hb3⟩
      have b3 := Sx.Below.after (w := w) Bel hb3
      have s3 := hb3.size
      try simp only [Sx.sizes] at s3
      (refine Ga ?_)
      (apply Lst_call; (focus rfl); (focus rfl))
      refine (a1 _).mono ?_
      rintro v w4 ⟨rfl, hb4⟩
      have b4 := Sx.Below.after (w := w) Bel hb4
      have s4 := hb4.size
      try simp only [Sx.sizes] at s4
      (refine Ga ?_)
      (apply Lst_call; (focus rfl); (focus rfl))
      refine (c_fv 9223372036854775808 _).mono ?_
      rintro v w5 ⟨rfl, hb5⟩
      have b5 := Sx.Below.after (w := w) Bel hb5
      have s5 := hb5.size
      try simp only [Sx.sizes] at s5
      (refine Ga ?_)
      (apply Lst_call; (focus rfl); (focus rfl))
      refine (c_fv f _).mono ?_
      rintro v w6 ⟨rfl, hb6⟩
      have b6 := Sx.Below.after (w := w) Bel hb6
      have s6 := hb6.size
      try simp only [Sx.sizes] at s6
      (refine Ga ?_)
      (apply Lst_call; (focus rfl); (focus rfl))
      refine (m1 _).mono ?_
      rintro v w7 ⟨rfl, hb7⟩
      have b7 := Sx.Below.after (w := w) Bel hb7
      have s7 := hb7.size
      try simp only [Sx.sizes] at s7
      by_cases hp : p < 0
      · have hq : ¬ q < 0 := fun h => nb ⟨hp, h⟩
        (refine Ga ?_)
        (apply Lst_call; (focus rfl); (focus rfl))
        refine (c_fv f _).mono ?_
        rintro v w8 ⟨rfl, hb8⟩
        have b8 := Sx.Below.after (w := w) Bel hb8
        have s8 := hb8.size
        try simp only [Sx.sizes] at s8
        refine Lst_abs (fun A => Below w.heap.size w A ∧ Blk A w4.heap.size [.int .i64 3, .int .i64 0, .float .f64 0, .string ⟨#[]⟩] 24) ⟨Bel, (by (repeat (first | assumption | (apply Blk.below (hb := hb1); rotate_left; (focus ((try simp only [Sx.sizes]); omega)); rotate_right) | (apply Blk.below (hb := hb2); rotate_left; (focus ((try simp only [Sx.sizes]); omega)); rotate_right) | (apply Blk.below (hb := hb3); rotate_left; (focus ((try simp only [Sx.sizes]); omega)); rotate_right) | (apply Blk.below (hb := hb4); rotate_left; (focus ((try simp only [Sx.sizes]); omega)); rotate_right) | (apply Blk.below (hb := hb5); rotate_left; (focus ((try simp only [Sx.sizes]); omega)); rotate_right) | (apply Blk.below (hb := hb6); rotate_left; (focus ((try simp only [Sx.sizes]); omega)); rotate_right) | (apply Blk.below (hb := hb7); rotate_left; (focus ((try simp only [Sx.sizes]); omega)); rotate_right) | (apply Blk.below (hb := hb8); rotate_left; (focus ((try simp only [Sx.sizes]); omega)); rotate_right) | (apply Blk.below (hb := hb9); rotate_left; (focus ((try simp only [Sx.sizes]); omega)); rotate_right) | exact Blk.newE (by first | rfl | ((try simp only [Sx.sizes]); first | done | omega)) _ _ | exact Blk.put_same (by (try simp only [Sx.sizes]); first | done | omega) _ _ | (apply Blk.put_ne; (focus omega)) | apply Blk.alloc | apply Blk.drew)); done)⟩ ?_
        have hx : w.heap.size ≤ w4.heap.size := b4.size
        generalize w4.heap.size = X at hx ⊢
        clear hb1 b1 s1 hb2 b2 s2 hb3 b3 s3 hb4 b4 s4 hb5 b5 s5 hb6 b6 s6 hb7 b7 s7 hb8 b8 s8
        rintro W0 ⟨b0, hk0⟩
        have hl0 := hk0.lt
        (refine Ga ?_)
        (apply Lst_call; (focus rfl); (focus rfl))
        refine (c_fv 0 _).mono ?_
        rintro v w3 ⟨rfl, hb3⟩
        have b3 := Sx.Below.after (w := w) Bel hb3
        have s3 := hb3.size
        try simp only [Sx.sizes] at s3
        (refine Ga ?_)
        (apply Lst_call; (focus rfl); (focus rfl))
        refine (m2 _).mono ?_
        rintro v w4 ⟨rfl, hb4⟩
        have b4 := Sx.Below.after (w := w) Bel hb4
        have s4 := hb4.size
        try simp only [Sx.sizes] at s4
        (refine Ga ?_)
        refine Lst_abs (fun A => Below w.heap.size w A ∧ Blk A X [.int .i64 3, .int .i64 0, .float .f64 0, .string ⟨#[]⟩] 24) ⟨Bel, (by (repeat (first | assumption | (apply Blk.below (hb := hb1); rotate_left; (focus ((try simp only [Sx.sizes]); omega)); rotate_right) | (apply Blk.below (hb := hb2); rotate_left; (focus ((try simp only [Sx.sizes]); omega)); rotate_right) | (apply Blk.below (hb := hb3); rotate_left; (focus ((try simp only [Sx.sizes]); omega)); rotate_right) | (apply Blk.below (hb := hb4); rotate_left; (focus ((try simp only [Sx.sizes]); omega)); rotate_right) | (apply Blk.below (hb := hb5); rotate_left; (focus ((try simp only [Sx.sizes]); omega)); rotate_right) | (apply Blk.below (hb := hb6); rotate_left; (focus ((try simp only [Sx.sizes]); omega)); rotate_right) | (apply Blk.below (hb := hb7); rotate_left; (focus ((try simp only [Sx.sizes]); omega)); rotate_right) | (apply Blk.below (hb := hb8); rotate_left; (focus ((try simp only [Sx.sizes]); omega)); rotate_right) | (apply Blk.below (hb := hb9); rotate_left; (focus ((try simp only [Sx.sizes]); omega)); rotate_right) | exact Blk.newE (by first | rfl | ((try simp only [Sx.sizes]); first | done | omega)) _ _ | exact Blk.put_same (by (try simp only [Sx.sizes]); first | done | omega) _ _ | (apply Blk.put_ne; (focus omega)) | apply Blk.alloc | apply Blk.drew)); done)⟩ ?_
        clear hb3 b3 s3 hb4 b4 s4 b0 hk0 hl0
        rintro W0 ⟨b0, hk0⟩
        have hl0 := hk0.lt
        (apply Lst_call; (focus rfl); (focus rfl))
        refine (c_fv 9223372036854775808 _).mono ?_
        rintro v w1 ⟨rfl, hb1⟩
        have b1 := Sx.Below.after (w := w) Bel hb1
        have s1 := hb1.size
        try simp only [Sx.sizes] at s1
        (refine Ga ?_)
        (apply Lst_call; (focus rfl); (focus rfl))
        refine (tf _).mono ?_
        rintro v w2 ⟨rfl, hb2⟩
        have b2 := Sx.Below.after (w := w) Bel hb2
        have s2 := hb2.size
        try simp only [Sx.sizes] at s2
        (refine Ga ?_)
        refine Lst_abs (fun A => Below w.heap.size w A ∧ Blk A X [.int .i64 3, .int .i64 0, .float .f64 0, .string ⟨#[]⟩] 24 ∧ Blk A w2.heap.size [.int .i64 3, .int .i64 0, .float .f64 m, .string ⟨#[]⟩] 24) ⟨Bel, (by (repeat (first | assumption | (apply Blk.below (hb := hb1); rotate_left; (focus ((try simp only [Sx.sizes]); omega)); rotate_right) | (apply Blk.below (hb := hb2); rotate_left; (focus ((try simp only [Sx.sizes]); omega)); rotate_right) | (apply Blk.below (hb := hb3); rotate_left; (focus ((try simp only [Sx.sizes]); omega)); rotate_right) | (apply Blk.below (hb := hb4); rotate_left; (focus ((try simp only [Sx.sizes]); omega)); rotate_right) | (apply Blk.below (hb := hb5); rotate_left; (focus ((try simp only [Sx.sizes]); omega)); rotate_right) | (apply Blk.below (hb := hb6); rotate_left; (focus ((try simp only [Sx.sizes]); omega)); rotate_right) | (apply Blk.below (hb := hb7); rotate_left; (focus ((try simp only [Sx.sizes]); omega)); rotate_right) | (apply Blk.below (hb := hb8); rotate_left; (focus ((try simp only [Sx.sizes]); omega)); rotate_right) | (apply Blk.below (hb := hb9); rotate_left; (focus ((try simp only [Sx.sizes]); omega)); rotate_right) | exact Blk.newE (by first | rfl | ((try simp only [Sx.sizes]); first | done | omega)) _ _ | exact Blk.put_same (by (try simp only [Sx.sizes]); first | done | omega) _ _ | (apply Blk.put_ne; (focus omega)) | apply Blk.alloc | apply Blk.drew)); done), (by (repeat (first | assumption | (apply Blk.below (hb := hb1); rotate_left; (focus ((try simp only [Sx.sizes]); omega)); rotate_right) | (apply Blk.below (hb := hb2); rotate_left; (focus ((try simp only [Sx.sizes]); omega)); rotate_right) | (apply Blk.below (hb := hb3); rotate_left; (focus ((try simp only [Sx.sizes]); omega)); rotate_right) | (apply Blk.below (hb := hb4); rotate_left; (focus ((try simp only [Sx.sizes]); omega)); rotate_right) | (apply Blk.below (hb := hb5); rotate_left; (focus ((try simp only [Sx.sizes]); omega)); rotate_right) | (apply Blk.below (hb := hb6); rotate_left; (focus ((try simp only [Sx.sizes]); omega)); rotate_right) | (apply Blk.below (hb := hb7); rotate_left; (focus ((try simp only [Sx.sizes]); omega)); rotate_right) | (apply Blk.below (hb := hb8); rotate_left; (focus ((try simp only [Sx.sizes]); omega)); rotate_right) | (apply Blk.below (hb := hb9); rotate_left; (focus ((try simp only [Sx.sizes]); omega)); rotate_right) | exact Blk.newE (by first | rfl | ((try simp only [Sx.sizes]); first | done | omega)) _ _ | exact Blk.put_same (by (try simp only [Sx.sizes]); first | done | omega) _ _ | (apply Blk.put_ne; (focus omega)) | apply Blk.alloc | apply Blk.drew)); done)⟩ ?_
        have hy : w.heap.size ≤ w2.heap.size := b2.size
        generalize w2.heap.size = Y at hy ⊢
        clear hb1 b1 s1 hb2 b2 s2
        rintro W1 ⟨b0, hk0, hk1⟩
        have hl0 := hk0.lt
        have hl1 := hk1.lt
        (refine Ga ?_)
        (apply Lst_call; (focus rfl); (focus rfl))
        refine (c_fv 9223372036854775808 _).mono ?_
        rintro v w1 ⟨rfl, hb1⟩
        have b1 := Sx.Below.after (w := w) Bel hb1
        have s1 := hb1.size
        try simp only [Sx.sizes] at s1
        (refine Ga ?_)
        (apply Lst_call; (focus rfl); (focus rfl))
        refine (c_fv 0 _).mono ?_
        rintro v w2 ⟨rfl, hb2⟩
        have b2 := Sx.Below.after (w := w) Bel hb2
        have s2 := hb2.size
        try simp only [Sx.sizes] at s2
        (refine Ga ?_)
        (apply Lst_call; (focus rfl); (focus rfl))
        refine (sm _).mono ?_
        rintro v w3 ⟨rfl, hb3⟩
        have b3 := Sx.Below.after (w := w) Bel hb3
        have s3 := hb3.size
        try simp only [Sx.sizes] at s3
        (refine Ga ?_)
        (apply Lst_call; (focus rfl); (focus rfl))
        refine (c_fv 9223372036854775808 _).mono ?_
        rintro v w4 ⟨rfl, hb4⟩
        have b4 := Sx.Below.after (w := w) Bel hb4
        have s4 := hb4.size
        try simp only [Sx.sizes] at s4
        (refine Ga ?_)
        (apply Lst_call; (focus rfl); (focus rfl))
        refine (t1 _ (hT.below Bel)).mono ?_
        rintro v w5 ⟨rfl, hb5⟩
        have b5 := Sx.Below.after (w := w) Bel hb5
        have s5 := hb5.size
        try simp only [Sx.sizes] at s5
        (refine Ga ?_)
        (apply Lst_call; (focus rfl); (focus rfl))
        refine (c_fv 0 _).mono ?_
        rintro v w6 ⟨rfl, hb6⟩
        have b6 := Sx.Below.after (w := w) Bel hb6
        have s6 := hb6.size
        try simp only [Sx.sizes] at s6
        (refine Ga ?_)
        (apply Lst_call; (focus rfl); (focus rfl))
        refine (t2 _ (hT.below Bel)).mono ?_
        rintro v w7 ⟨rfl, hb7⟩
        have b7 := Sx.Below.after (w := w) Bel hb7
        have s7 := hb7.size
        try simp only [Sx.sizes] at s7
        (refine Ga ?_)
        (apply retQ1; (focus rfl))
        exact ⟨rfl, Bel⟩
      · skip
        (refine Ga ?_)
        refine Lst_abs (fun A => Below w.heap.size w A ∧ Blk A w4.heap.size [.int .i64 3, .int .i64 0, .float .f64 0, .string ⟨#[]⟩] 24) ⟨Bel, (by (repeat (first | assumption | (apply Blk.below (hb := hb1); rotate_left; (focus ((try simp only [Sx.sizes]); omega)); rotate_right) | (apply Blk.below (hb := hb2); rotate_left; (focus ((try simp only [Sx.sizes]); omega)); rotate_right) | (apply Blk.below (hb := hb3); rotate_left; (focus ((try simp only [Sx.sizes]); omega)); rotate_right) | (apply Blk.below (hb := hb4); rotate_left; (focus ((try simp only [Sx.sizes]); omega)); rotate_right) | (apply Blk.below (hb := hb5); rotate_left; (focus ((try simp only [Sx.sizes]); omega)); rotate_right) | (apply Blk.below (hb := hb6); rotate_left; (focus ((try simp only [Sx.sizes]); omega)); rotate_right) | (apply Blk.below (hb := hb7); rotate_left; (focus ((try simp only [Sx.sizes]); omega)); rotate_right) | (apply Blk.below (hb := hb8); rotate_left; (focus ((try simp only [Sx.sizes]); omega)); rotate_right) | (apply Blk.below (hb := hb9); rotate_left; (focus ((try simp only [Sx.sizes]); omega)); rotate_right) | exact Blk.newE (by first | rfl | ((try simp only [Sx.sizes]); first | done | omega)) _ _ | exact Blk.put_same (by (try simp only [Sx.sizes]); first | done | omega) _ _ | (apply Blk.put_ne; (focus omega)) | apply Blk.alloc | apply Blk.drew)); done)⟩ ?_
        have hx : w.heap.size ≤ w4.heap.size := b4.size
        generalize w4.heap.size = X at hx ⊢
        clear hb1 b1 s1 hb2 b2 s2 hb3 b3 s3 hb4 b4 s4 hb5 b5 s5 hb6 b6 s6 hb7 b7 s7
        rintro W0 ⟨b0, hk0⟩
        have hl0 := hk0.lt
        (apply Lst_call; (focus rfl); (focus rfl))
        refine (c_fv 9223372036854775808 _).mono ?_
        rintro v w1 ⟨rfl, hb1⟩
        have b1 := Sx.Below.after (w := w) Bel hb1
        have s1 := hb1.size
        try simp only [Sx.sizes] at s1
        (refine Ga ?_)
        (apply Lst_call; (focus rfl); (focus rfl))
        refine (tf _).mono ?_
        rintro v w2 ⟨rfl, hb2⟩
        have b2 := Sx.Below.after (w := w) Bel hb2
        have s2 := hb2.size
        try simp only [Sx.sizes] at s2
        (refine Ga ?_)
        refine Lst_abs (fun A => Below w.heap.size w A ∧ Blk A X [.int .i64 3, .int .i64 0, .float .f64 0, .string ⟨#[]⟩] 24 ∧ Blk A w2.heap.size [.int .i64 3, .int .i64 0, .float .f64 m, .string ⟨#[]⟩] 24) ⟨Bel, (by (repeat (first | assumption | (apply Blk.below (hb := hb1); rotate_left; (focus ((try simp only [Sx.sizes]); omega)); rotate_right) | (apply Blk.below (hb := hb2); rotate_left; (focus ((try simp only [Sx.sizes]); omega)); rotate_right) | (apply Blk.below (hb := hb3); rotate_left; (focus ((try simp only [Sx.sizes]); omega)); rotate_right) | (apply Blk.below (hb := hb4); rotate_left; (focus ((try simp only [Sx.sizes]); omega)); rotate_right) | (apply Blk.below (hb := hb5); rotate_left; (focus ((try simp only [Sx.sizes]); omega)); rotate_right) | (apply Blk.below (hb := hb6); rotate_left; (focus ((try simp only [Sx.sizes]); omega)); rotate_right) | (apply Blk.below (hb := hb7); rotate_left; (focus ((try simp only [Sx.sizes]); omega)); rotate_right) | (apply Blk.below (hb := hb8); rotate_left; (focus ((try simp only [Sx.sizes]); omega)); rotate_right) | (apply Blk.below (hb := hb9); rotate_left; (focus ((try simp only [Sx.sizes]); omega)); rotate_right) | exact Blk.newE (by first | rfl | ((try simp only [Sx.sizes]); first | done | omega)) _ _ | exact Blk.put_same (by (try simp only [Sx.sizes]); first | done | omega) _ _ | (apply Blk.put_ne; (focus omega)) | apply Blk.alloc | apply Blk.drew)); done), (by (repeat (first | assumption | (apply Blk.below (hb := hb1); rotate_left; (focus ((try simp only [Sx.sizes]); omega)); rotate_right) | (apply Blk.below (hb := hb2); rotate_left; (focus ((try simp only [Sx.sizes]); omega)); rotate_right) | (apply Blk.below (hb := hb3); rotate_left; (focus ((try simp only [Sx.sizes]); omega)); rotate_right) | (apply Blk.below (hb := hb4); rotate_left; (focus ((try simp only [Sx.sizes]); omega)); rotate_right) | (apply Blk.below (hb := hb5); rotate_left; (focus ((try simp only [Sx.sizes]); omega)); rotate_right) | (apply Blk.below (hb := hb6); rotate_left; (focus ((try simp only [Sx.sizes]); omega)); rotate_right) | (apply Blk.below (hb := hb7); rotate_left; (focus ((try simp only [Sx.sizes]); omega)); rotate_right) | (apply Blk.below (hb := hb8); rotate_left; (focus ((try simp only [Sx.sizes]); omega)); rotate_right) | (apply Blk.below (hb := hb9); rotate_left; (focus ((try simp only [Sx.sizes]); omega)); rotate_right) | exact Blk.newE (by first | rfl | ((try simp only [Sx.sizes]); first | done | omega)) _ _ | exact Blk.put_same (by (try simp only [Sx.sizes]); first | done | omega) _ _ | (apply Blk.put_ne; (focus omega)) | apply Blk.alloc | apply Blk.drew)); done)⟩ ?_
        have hy : w.heap.size ≤ w2.heap.size := b2.size
        generalize w2.heap.size = Y at hy ⊢
        clear hb1 b1 s1 hb2 b2 s2
        rintro W1 ⟨b0, hk0, hk1⟩
        have hl0 := hk0.lt
        have hl1 := hk1.lt
        (refine Ga ?_)
        (apply Lst_call; (focus rfl); (focus rfl))
        refine (c_fv 9223372036854775808 _).mono ?_
        rintro v w1 ⟨rfl, hb1⟩
        have b1 := Sx.Below.after (w := w) Bel hb1
        have s1 := hb1.size
        try simp only [Sx.sizes] at s1
        (refine Ga ?_)
        (apply Lst_call; (focus rfl); (focus rfl))
        refine (c_fv 0 _).mono ?_
        rintro v w2 ⟨rfl, hb2⟩
        have b2 := Sx.Below.after (w := w) Bel hb2
        have s2 := hb2.size
        try simp only [Sx.sizes] at s2
        (refine Ga ?_)
        (apply Lst_call; (focus rfl); (focus rfl))
        refine (sm _).mono ?_
        rintro v w3 ⟨rfl, hb3⟩
        have b3 := Sx.Below.after (w := w) Bel hb3
        have s3 := hb3.size
        try simp only [Sx.sizes] at s3
        (refine Ga ?_)
        (apply Lst_call; (focus rfl); (focus rfl))
        refine (c_fv 9223372036854775808 _).mono ?_
        rintro v w4 ⟨rfl, hb4⟩
        have b4 := Sx.Below.after (w := w) Bel hb4
        have s4 := hb4.size
        try simp only [Sx.sizes] at s4
        (refine Ga ?_)
        (apply Lst_call; (focus rfl); (focus rfl))
        refine (t1 _ (hT.below Bel)).mono ?_
        rintro v w5 ⟨rfl, hb5⟩
        have b5 := Sx.Below.after (w := w) Bel hb5
        have s5 := hb5.size
        try simp only [Sx.sizes] at s5
        (refine Ga ?_)
        (apply Lst_call; (focus rfl); (focus rfl))
        refine (c_fv 0 _).mono ?_
        rintro v w6 ⟨rfl, hb6⟩
        have b6 := Sx.Below.after (w := w) Bel hb6
        have s6 := hb6.size
        try simp only [Sx.sizes] at s6
        (refine Ga ?_)
        (apply Lst_call; (focus rfl); (focus rfl))
        refine (t2 _ (hT.below Bel)).mono ?_
        rintro v w7 ⟨rfl, hb7⟩
        have b7 := Sx.Below.after (w := w) Bel hb7
        have s7 := hb7.size
        try simp only [Sx.sizes] at s7
        (refine Ga ?_)
        (apply retQ1; (focus rfl))
        exact ⟨rfl, Bel⟩
    · have ci := fun A => c_IsInf f hf hn A
      rw [decide_eq_true hi] at ci
      (refine Ga ?_)
      (apply Lst_call; (focus rfl); (focus rfl))
      refine (c_known _ hT).mono ?_
      rintro v w1 ⟨rfl, hb1⟩
      have b1 := Sx.Below.after (w := w) Bel hb1
      have s1 := hb1.size
      try simp only [Sx.sizes] at s1
      (refine Ga ?_)
      (apply Lst_call; (focus rfl); (focus rfl))
      refine (ci _).mono ?_
      rintro v w' ⟨rfl, rfl⟩
      (refine Ga ?_)
      (apply retQ1; (focus rfl))
      exact ⟨rfl, Bel⟩
  · have oa := ord_self_nan hn
    (refine Ga ?_)
    (apply Lst_call; (focus rfl); (focus rfl))
    refine (c_known _ hT).mono ?_
    rintro v w1 ⟨rfl, hb1⟩
    have b1 := Sx.Below.after (w := w) Bel hb1
    have s1 := hb1.size
    try simp only [Sx.sizes] at s1
    (refine Ga ?_)
    (apply retQ1; (focus rfl))
    exact ⟨rfl, Bel⟩
end Val
end Go.Proofs.YtnlmilcfmalodaaDoor
