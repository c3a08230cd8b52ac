/- ValueFloats: the walk of the law. -/
import Derived.Test.YtnlmilcfmalodaaDoorKnown
namespace Go.Proofs.YtnlmilcfmalodaaDoor
set_option maxRecDepth 100000
namespace Val
open Go Go.RowKit Sx Fl Hex
theorem cmp_fv (a b : Nat) : cmpV (fv a) (fv b) = cmpI (K a) (K b) := by
  unfold cmpV
  have e1 : cmpI (fv a).k (fv b).k = 0 := rfl
  have e2 : cmpI (fv a).n (fv b).n = 0 := rfl
  have e3 : cmpS (fv a).s (fv b).s = 0 := rfl
  rw [e1, e2, e3]
  show orL [0, 0, cmpI (K a) (K b), 0] = _
  simp [orL]
  intro h
  exact h.symm
theorem sh63a : (9223372036854775808 : Int).fdiv (2 ^ (min (63 : Int).toNat IntKind.u64.bits)) = 1 := by decide
theorem sh63b : (0 : Int).fdiv (2 ^ (min (63 : Int).toNat IntKind.u64.bits)) = 0 := by decide
theorem two_noughts {f : Nat} (hf : f < 18446744073709551616) (h : rung f = 0) : f = 0 ∨ f = 9223372036854775808 := by
  unfold rung at h
  omega
theorem K_eq_of {a b : Nat} (ha : isNaN a = false) (hb : isNaN b = false) (h0 : ¬ rung a = 0) (h : sk a = sk b) : K a = K b := by
  rw [K_num ha, K_num hb]
  unfold sk at h
  cases hs : sgn a <;> cases ht : sgn b <;> rw [hs, ht] at h <;> simp only [Bool.false_eq_true, if_false, if_true] at h ⊢ <;> omega
attribute [local irreducible] W Lst Qst Pu seqQ blkQ rndQ cutQ retQ Does Enters IntKind.wrap bits sb World.alloc World.putObj Blk
theorem law_ValueFloats (a b : Nat) (ha : a < 18446744073709551616) (hb : b < 18446744073709551616) (w : World) (hT : VTabs w) : Does Tryd.prog 5 #[.int .u64 (a : Int), .int .u64 (b : Int)] w fun v w' => v = .bool true ∧ Below w.heap.size w w' := by
  refine Does_of (args := [.int .u64 (a : Int), .int .u64 (b : Int)]) Tryd.func5 (by kernel_rfl) rfl rfl rfl rfl rfl ?_
  have ea : ((a : Nat) : Int).toNat = a := Int.toNat_natCast a
  have eb : ((b : Nat) : Int).toNat = b := Int.toNat_natCast b
  have fa := fun A => c_fv a A
  have fb := fun A => c_fv b A
  have ac := fun A => c_Cmp (fv a) (fv b) (fv_fit ha) (fv_fit hb) A
  rw [cmp_fv] at ac
  generalize hc : cmpI (K a) (K b) = c at ac
  (refine Ga ?_)
  (apply Lst_call; (focus rfl); (focus rfl))
  refine (c_known _ hT).mono ?_
  rintro v w1 ⟨rfl, hb1⟩
  have b1 := Sx.Below.after (w := w) Bel hb1
  have s1 := hb1.size
  try simp only [World.size_alloc, World.putObj_size, Sx.size_drew] at s1
  (refine Ga ?_)
  (apply Lst_call; (focus rfl); (focus rfl))
  refine (fa _).mono ?_
  rintro v w2 ⟨rfl, hb2⟩
  have b2 := Sx.Below.after (w := w) Bel hb2
  have s2 := hb2.size
  try simp only [World.size_alloc, World.putObj_size, Sx.size_drew] at s2
  (refine Ga ?_)
  (apply Lst_call; (focus rfl); (focus rfl))
  refine (fb _).mono ?_
  rintro v w3 ⟨rfl, hb3⟩
  have b3 := Sx.Below.after (w := w) Bel hb3
  have s3 := hb3.size
  try simp only [World.size_alloc, World.putObj_size, Sx.size_drew] at s3
  (refine Ga ?_)
  (apply Lst_call; (focus rfl); (focus rfl))
  refine (ac _).mono ?_
  rintro v w4 ⟨rfl, hb4⟩
  have b4 := Sx.Below.after (w := w) Bel hb4
  have s4 := hb4.size
  try simp only [World.size_alloc, World.putObj_size, Sx.size_drew] at s4
  cases na : isNaN a <;> cases nb : isNaN b
  · have oa := ord_self na
    have ob := ord_self nb
    have o := order_eq a b na nb
    unfold cmpI at hc
    by_cases h1 : sk a < sk b
    · have hk := K_lt na nb h1
      rw [if_pos hk] at hc
      rw [cmp_lt h1] at o
      (refine Ga ?_)
      (apply retQ1; (focus rfl))
      exact ⟨rfl, Bel⟩
    · by_cases h2 : sk b < sk a
      · have hk := K_lt nb na h2
        rw [if_neg (by omega), if_pos hk] at hc
        rw [cmp_gt h2] at o
        (refine Ga ?_)
        (apply retQ1; (focus rfl))
        exact ⟨rfl, Bel⟩
      · rw [cmp_eq (by omega)] at o
        by_cases h0 : rung a = 0
        · have oz := ord_zero_eq na h0
          have h0' : rung b = 0 := by
            have he : sk a = sk b := by omega
            unfold sk at he
            rw [h0] at he
            cases hs : sgn a <;> cases ht : sgn b <;> rw [hs, ht] at he <;> simp only [Bool.false_eq_true, if_false, if_true] at he <;> omega
          rcases two_noughts ha h0 with rfl | rfl <;> rcases two_noughts hb h0' with rfl | rfl
          · rw [if_neg (by omega), if_neg (by omega)] at hc
            (refine Ga ?_)
            (apply retQ1; (focus rfl))
            exact ⟨rfl, Bel⟩
          · rw [show (if K 0 < K 9223372036854775808 then (-1 : Int) else if K 9223372036854775808 < K 0 then 1 else 0) = 1 by decide] at hc
            (refine Ga ?_)
            apply Lst_pu
            · apply P_shr
              focus rfl
              focus rfl
              focus omega
              exact sh63b
            focus rfl
            (refine Ga ?_)
            (apply retQ1; (focus rfl))
            exact ⟨rfl, Bel⟩
          · rw [show (if K 9223372036854775808 < K 0 then (-1 : Int) else if K 0 < K 9223372036854775808 then 1 else 0) = -1 by decide] at hc
            (refine Ga ?_)
            apply Lst_pu
            · apply P_shr
              focus rfl
              focus rfl
              focus omega
              exact sh63a
            focus rfl
            (refine Ga ?_)
            (apply retQ1; (focus rfl))
            exact ⟨rfl, Bel⟩
          · rw [if_neg (by omega), if_neg (by omega)] at hc
            (refine Ga ?_)
            (apply retQ1; (focus rfl))
            exact ⟨rfl, Bel⟩
        · obtain ⟨d, oz, hne⟩ := ord_zero_ne na h0
          rw [K_eq_of na nb h0 (by omega), if_neg (by omega), if_neg (by omega)] at hc
          rcases d with _ | _ | _
          · (refine Ga ?_)
            (apply retQ1; (focus rfl))
            exact ⟨rfl, Bel⟩
          · exact absurd rfl hne
          · (refine Ga ?_)
            (apply retQ1; (focus rfl))
            exact ⟨rfl, Bel⟩
  · have oa := ord_self na
    have ob := ord_self_nan nb
    have hk := K_lt_nan na
    rw [K_nan nb] at hc
    unfold cmpI at hc
    rw [if_pos hk] at hc
    (refine Ga ?_)
    (apply retQ1; (focus rfl))
    exact ⟨rfl, Bel⟩
  · have oa := ord_self_nan na
    have ob := ord_self nb
    have hk := K_lt_nan nb
    rw [K_nan na] at hc
    unfold cmpI at hc
    rw [if_neg (by omega), if_pos hk] at hc
    (refine Ga ?_)
    (apply retQ1; (focus rfl))
    exact ⟨rfl, Bel⟩
  · have oa := ord_self_nan na
    have ob := ord_self_nan nb
    rw [K_nan na, K_nan nb] at hc
    unfold cmpI at hc
    rw [if_neg (by omega), if_neg (by omega)] at hc
    (refine Ga ?_)
    (apply retQ1; (focus rfl))
    exact ⟨rfl, Bel⟩
end Val
end Go.Proofs.YtnlmilcfmalodaaDoor
