/- The walks of package value, continued: floats in order, two values in order. -/
import Derived.Test.YtpfhnapjddckfaaGreatDoorVal
import Derived.Test.YtpfhnapjddckfaaGreatDoorSxMore
namespace Go.Proofs.YtpfhnapjddckfaaGreatDoor
set_option maxRecDepth 100000
namespace Val
open Go Go.RowKit Sx Fl
attribute [local irreducible] W Lst Qst Pu seqQ blkQ rndQ cutQ retQ Does Enters IntKind.wrap bits sb World.alloc World.putObj Blk
def cmpI (a b : Int) : Int := if a < b then -1 else if b < a then 1 else 0
theorem c_flts (x y : Nat) (hx : isNaN x = false) (hy : isNaN y = false) (w : World) : Does Tryz.prog 71 #[.float .f64 x, .float .f64 y] w fun v w' => v = .int .i64 (cmpI (sk x) (sk y)) ∧ w = w' := by
  refine Does_of (args := [.float .f64 x, .float .f64 y]) Tryz.func71 (by kernel_rfl) rfl rfl rfl rfl rfl ?_
  (refine Gf ?_)
  (apply Lst_call; (focus rfl); (focus rfl))
  refine (c_nanflt x w).mono ?_
  rintro v w' ⟨hv, rfl⟩
  rw [hx] at hv; subst hv
  (refine Gf ?_)
  (apply Lst_call; (focus rfl); (focus rfl))
  refine (c_nanflt y w).mono ?_
  rintro v w' ⟨hv, rfl⟩
  rw [hy] at hv; subst hv
  have ho := order_eq x y hx hy
  unfold cmpI
  by_cases h1 : sk x < sk y
  · rw [if_pos h1]
    rw [cmp_lt h1] at ho
    (refine Gf ?_)
    (apply retQ1; (focus rfl))
    exact ⟨rfl, rfl⟩
  · rw [if_neg h1]
    by_cases h2 : sk y < sk x
    · rw [if_pos h2]
      rw [cmp_gt h2] at ho
      (refine Gf ?_)
      (apply retQ1; (focus rfl))
      exact ⟨rfl, rfl⟩
    · rw [if_neg h2]
      rw [cmp_eq (by omega)] at ho
      (refine Gf ?_)
      (apply retQ1; (focus rfl))
      exact ⟨rfl, rfl⟩
/-- Where a float stands. -/
def K (f : Nat) : Int := if isNaN f then 9223372036854775807 else if sgn f then -1 - (rung f : Int) else (rung f : Int)
theorem rankf_nan {f : Nat} (h : isNaN f = true) : rankf f = 0 := by unfold rankf; rw [if_pos h]
theorem nan_rankf (f : Nat) : isNaN (rankf f) = false := by
  unfold rankf
  cases h : isNaN f
  · by_cases h0 : rung f = 0
    · rw [if_neg (by simp), if_pos h0]; rfl
    · rw [if_neg (by simp), if_neg h0]; exact h
  · rfl
theorem sk_rankf {f : Nat} (h : isNaN f = false) : sk (rankf f) = sk f := by
  unfold rankf
  by_cases h0 : rung f = 0
  · rw [h, if_neg (by simp), if_pos h0]
    unfold sk
    rw [h0]
    cases sgn f <;> rfl
  · rw [h, if_neg (by simp), if_neg h0]
theorem rung_lt {f : Nat} (h : isNaN f = false) : rung f ≤ 9218868437227405312 := by
  unfold isNaN at h
  exact Nat.le_of_not_lt (of_decide_eq_false h)
theorem K_nan {f : Nat} (h : isNaN f = true) : K f = 9223372036854775807 := by unfold K; rw [if_pos h]
theorem K_num {f : Nat} (h : isNaN f = false) : K f = if sgn f then -1 - (rung f : Int) else (rung f : Int) := by unfold K; rw [if_neg (by simp [h])]
theorem K_lt_nan {f : Nat} (h : isNaN f = false) : K f < 9223372036854775807 := by
  have := rung_lt h
  rw [K_num h]
  cases sgn f
  · rw [if_neg (by simp)]; omega
  · rw [if_pos rfl]; omega
theorem K_lt {a b : Nat} (ha : isNaN a = false) (hb : isNaN b = false) (h : sk a < sk b) : K a < K b := by
  rw [K_num ha, K_num hb]
  unfold sk at h
  cases hs : sgn a <;> cases ht : sgn b <;> rw [hs, ht] at h <;> simp only [Bool.false_eq_true, if_false, if_true] at h ⊢ <;> omega
theorem c_floats (a b : Nat) (ha : a < 18446744073709551616) (hb : b < 18446744073709551616) (w : World) : Does Tryz.prog 49 #[.float .f64 a, .float .f64 b] w fun v w' => v = .int .i64 (cmpI (K a) (K b)) ∧ w = w' := by
  refine Does_of (args := [.float .f64 a, .float .f64 b]) Tryz.func49 (by kernel_rfl) rfl rfl rfl rfl rfl ?_
  (refine Gf ?_)
  (apply Lst_call; (focus rfl); (focus rfl))
  refine (c_rank a ha w).mono ?_
  rintro v w' ⟨hv1, rfl⟩
  cases na : isNaN a <;> (rw [na] at hv1; try simp only [if_true, if_false, Bool.false_eq_true] at hv1) <;> subst hv1
  · (refine Gf ?_)
    (apply Lst_call; (focus rfl); (focus rfl))
    refine (c_rank b hb w).mono ?_
    rintro v w' ⟨hv2, rfl⟩
    cases nb : isNaN b <;> (rw [nb] at hv2; try simp only [if_true, if_false, Bool.false_eq_true] at hv2) <;> subst hv2
    · have ho := order_eq _ _ (nan_rankf a) (nan_rankf b)
      have hc := c_flts (rankf a) (rankf b) (nan_rankf a) (nan_rankf b) w
      rw [sk_rankf na, sk_rankf nb] at ho hc
      by_cases h1 : sk a < sk b
      · have hk := K_lt na nb h1
        rw [cmp_lt h1] at ho
        (refine Gf ?_)
        (apply Lst_call; (focus rfl); (focus rfl))
        refine hc.mono ?_
        rintro v w' ⟨rfl, rfl⟩
        (refine Gf ?_)
        (apply retQ1; (focus rfl))
        refine ⟨?_, rfl⟩
        unfold cmpI; rw [if_pos h1, if_pos hk]; rfl
      · by_cases h2 : sk b < sk a
        · have hk := K_lt nb na h2
          rw [cmp_gt h2] at ho
          (refine Gf ?_)
          (apply Lst_call; (focus rfl); (focus rfl))
          refine hc.mono ?_
          rintro v w' ⟨rfl, rfl⟩
          (refine Gf ?_)
          (apply retQ1; (focus rfl))
          refine ⟨?_, rfl⟩
          unfold cmpI; rw [if_neg h1, if_pos h2, if_neg (by omega), if_pos hk]; rfl
        · have he : sk a = sk b := by omega
          rw [cmp_eq he] at ho
          by_cases h0 : rung a = 0
          · have h0' : rung b = 0 := by
              unfold sk at he
              rw [h0] at he
              cases hs : sgn a <;> cases ht : sgn b <;> rw [hs, ht] at he <;> simp only [Bool.false_eq_true, if_false, if_true] at he <;> omega
            have oa := ord_zero_eq na h0
            have ob := ord_zero_eq nb h0'
            (refine Gf ?_)
            (apply Lst_call; (focus rfl); (focus rfl))
            refine (c_signbit a ha w).mono ?_
            rintro v w' ⟨rfl, rfl⟩
            (refine Gf ?_)
            (apply Lst_call; (focus rfl); (focus rfl))
            refine (c_signbit b hb w).mono ?_
            rintro v w' ⟨rfl, rfl⟩
            rw [K_num na, K_num nb, h0, h0']
            cases hs : sgn a <;> cases ht : sgn b
            · (refine Gf ?_)
              (apply retQ1; (focus rfl))
              exact ⟨rfl, rfl⟩
            · (refine Gf ?_)
              (apply Lst_call; (focus rfl); (focus rfl))
              refine (c_signbit a ha w).mono ?_
              rintro v w' ⟨rfl, rfl⟩
              rw [hs]
              (refine Gf ?_)
              (apply retQ1; (focus rfl))
              exact ⟨rfl, rfl⟩
            · (refine Gf ?_)
              (apply Lst_call; (focus rfl); (focus rfl))
              refine (c_signbit a ha w).mono ?_
              rintro v w' ⟨rfl, rfl⟩
              rw [hs]
              (refine Gf ?_)
              (apply retQ1; (focus rfl))
              exact ⟨rfl, rfl⟩
            · (refine Gf ?_)
              (apply retQ1; (focus rfl))
              exact ⟨rfl, rfl⟩
          · obtain ⟨c, oa, hne⟩ := ord_zero_ne na h0
            have hk : K a = K b := by
              rw [K_num na, K_num nb]
              unfold sk at he
              cases hs : sgn a <;> cases ht : sgn b <;> rw [hs, ht] at he <;> simp only [Bool.false_eq_true, if_false, if_true] at he ⊢ <;> omega
            rw [hk]
            have hz : cmpI (K b) (K b) = 0 := by unfold cmpI; rw [if_neg (by omega), if_neg (by omega)]
            rw [hz]
            rcases c with _ | _ | _
            · (refine Gf ?_)
              (apply retQ1; (focus rfl))
              exact ⟨rfl, rfl⟩
            · exact absurd rfl hne
            · (refine Gf ?_)
              (apply retQ1; (focus rfl))
              exact ⟨rfl, rfl⟩
    · have hk := K_lt_nan na
      (refine Gf ?_)
      (apply Lst_call; (focus rfl); (focus rfl))
      refine (c_ints _ _ w).mono ?_
      rintro v w' ⟨hv, rfl⟩
      rw [if_pos (by omega)] at hv; subst hv
      (refine Gf ?_)
      (apply retQ1; (focus rfl))
      refine ⟨?_, rfl⟩
      rw [K_nan nb]
      unfold cmpI; rw [if_pos hk]; rfl
  · (refine Gf ?_)
    (apply Lst_call; (focus rfl); (focus rfl))
    refine (c_rank b hb w).mono ?_
    rintro v w' ⟨hv2, rfl⟩
    cases nb : isNaN b <;> (rw [nb] at hv2; try simp only [if_true, if_false, Bool.false_eq_true] at hv2) <;> subst hv2
    · have hk := K_lt_nan nb
      (refine Gf ?_)
      (apply Lst_call; (focus rfl); (focus rfl))
      refine (c_ints _ _ w).mono ?_
      rintro v w' ⟨hv, rfl⟩
      rw [if_neg (by omega), if_pos (by omega)] at hv; subst hv
      (refine Gf ?_)
      (apply retQ1; (focus rfl))
      refine ⟨?_, rfl⟩
      rw [K_nan na]
      unfold cmpI; rw [if_neg (by omega), if_pos hk]; rfl
    · rw [rankf_nan na, rankf_nan nb, K_nan na, K_nan nb]
      (refine Gf ?_)
      (apply Lst_call; (focus rfl); (focus rfl))
      refine (c_flts 0 0 rfl rfl w).mono ?_
      rintro v w' ⟨rfl, rfl⟩
      (refine Gf ?_)
      (apply retQ1; (focus rfl))
      exact ⟨rfl, rfl⟩
end Val
end Go.Proofs.YtpfhnapjddckfaaGreatDoor
