/- Merged: Place, Val, Val2, Val3, Val6, SqP, SqK, SqI, SqM, Ids, SqW. -/
import Derived.Test.YtmgipnckojopcaaGreatPcSxGo
import Derived.Test.YtmgipnckojopcaaGreatProg
import Derived.Test.YtmgipnckojopcaaGreatPcSxD
import Derived.Test.YtmgipnckojopcaaGreatShelf
import Derived.WalkKit
import Derived.Test.YtmgipnckojopcaaGreatPcJSxEToSxMapG
import Derived.Test.YtmgipnckojopcaaGreatPcJSxRToSxF
namespace Go.Proofs.YtmgipnckojopcaaGreat
set_option maxRecDepth 100000
namespace Wire
open Go Go.RowKit Sx
attribute [local irreducible] W Lst Qst Pu seqQ blkQ rndQ cutQ retQ Does Enters IntKind.wrap bits sb World.alloc World.putObj Blk
theorem h_Place (k n : Int) (w : World) (hn : 0 < n) (hn2 : n < 4611686018427387904) : Does Tryz.prog 9 #[.int .i64 k, .int .i64 n] w fun v w' => v = .int .i64 (k % n) ∧ w = w' := by
  refine Does_of (args := [.int .i64 k, .int .i64 n]) Tryz.func9 (by kernel_rfl) rfl rfl rfl rfl rfl ?_
  have h1 := Int.tmod_lt_of_pos k hn
  have h2 := Int.lt_tmod_of_pos k hn
  have h3 := Int.tmod_eq_emod (a := k) (b := n)
  have h4 := Int.emod_nonneg k (show n ≠ 0 by omega)
  have h5 := Int.emod_lt_of_pos k hn
  (repeat' (first | (apply W_seq) | (apply W_region) | (apply W_block) | (apply W_skip) | (apply W_ret) | (apply W_exit) | (apply W_cond_t; (focus rfl)) | (apply W_cond_f; (focus rfl)) | (apply Lst_nil) | (apply seqQ_n) | (apply seqQ_r) | (apply seqQ_e) | (apply blkQ_n) | (apply blkQ_r) | (apply blkQ_e) | (apply rndQ_r) | (apply rndQ_e) | (apply cutQ_r) | (apply cutQ_e) | (apply Lst_guard_t; (focus rfl); (focus rfl)) | (apply Lst_guard_f; (focus rfl); (focus rfl); (focus rfl); (focus rfl)) | (apply Lst_guard_u; (focus rfl); (focus rfl); (focus rfl)) | (apply Lst_alloc; (focus rfl); (focus rfl); (focus rfl); (focus ((try simp only [Sx.sizes]); first | done | rfl)); (focus rfl)) | (apply Lst_box; (focus constructor); (focus rfl); (focus ((try simp only [Sx.sizes]); first | done | rfl)); (focus rfl)) | (apply Lst_load; (focus rfl); (focus rfl); (focus rfl); (focus ((repeat (first | assumption | (apply Blk.below (hb := hb1); rotate_left; (focus ((try simp only [Sx.sizes]); omega)); rotate_right) | (apply Blk.below (hb := hb2); rotate_left; (focus ((try simp only [Sx.sizes]); omega)); rotate_right) | (apply Blk.below (hb := hb3); rotate_left; (focus ((try simp only [Sx.sizes]); omega)); rotate_right) | (apply Blk.below (hb := hb4); rotate_left; (focus ((try simp only [Sx.sizes]); omega)); rotate_right) | (apply Blk.below (hb := hb5); rotate_left; (focus ((try simp only [Sx.sizes]); omega)); rotate_right) | (apply Blk.below (hb := hb6); rotate_left; (focus ((try simp only [Sx.sizes]); omega)); rotate_right) | (apply Blk.below (hb := hb7); rotate_left; (focus ((try simp only [Sx.sizes]); omega)); rotate_right) | (apply Blk.below (hb := hb8); rotate_left; (focus ((try simp only [Sx.sizes]); omega)); rotate_right) | (apply Blk.below (hb := hb9); rotate_left; (focus ((try simp only [Sx.sizes]); omega)); rotate_right) | exact Blk.newE (by first | rfl | ((try simp only [Sx.sizes]); first | done | omega)) _ _ | exact Blk.put_same (by (try simp only [Sx.sizes]); first | done | omega) _ _ | (apply Blk.put_ne; (focus omega)) | apply Blk.alloc | apply Blk.drew)); done)); (focus rfl); (focus rfl)) | (apply Lst_loadc; (focus rfl); (focus rfl); (focus rfl); (focus assumption); (focus rfl)) | (apply Lst_store; (focus rfl); (focus constructor); (focus rfl); (focus rfl); (focus rfl); (focus rfl); (focus ((repeat (first | assumption | (apply Blk.below (hb := hb1); rotate_left; (focus ((try simp only [Sx.sizes]); omega)); rotate_right) | (apply Blk.below (hb := hb2); rotate_left; (focus ((try simp only [Sx.sizes]); omega)); rotate_right) | (apply Blk.below (hb := hb3); rotate_left; (focus ((try simp only [Sx.sizes]); omega)); rotate_right) | (apply Blk.below (hb := hb4); rotate_left; (focus ((try simp only [Sx.sizes]); omega)); rotate_right) | (apply Blk.below (hb := hb5); rotate_left; (focus ((try simp only [Sx.sizes]); omega)); rotate_right) | (apply Blk.below (hb := hb6); rotate_left; (focus ((try simp only [Sx.sizes]); omega)); rotate_right) | (apply Blk.below (hb := hb7); rotate_left; (focus ((try simp only [Sx.sizes]); omega)); rotate_right) | (apply Blk.below (hb := hb8); rotate_left; (focus ((try simp only [Sx.sizes]); omega)); rotate_right) | (apply Blk.below (hb := hb9); rotate_left; (focus ((try simp only [Sx.sizes]); omega)); rotate_right) | exact Blk.newE (by first | rfl | ((try simp only [Sx.sizes]); first | done | omega)) _ _ | exact Blk.put_same (by (try simp only [Sx.sizes]); first | done | omega) _ _ | (apply Blk.put_ne; (focus omega)) | apply Blk.alloc | apply Blk.drew)); done)); (focus ((repeat constructor); done))) | (apply Lst_pu; (focus (first | (apply P_move; (focus constructor)) | (apply P_assign; (focus constructor)) | (apply P_ar; (focus rfl); (focus rfl); (focus rfl); (focus (first | assumption | exact wi64 (by omega) (by omega) | exact wu64 (by omega) (by omega) | exact wi32 (by omega) (by omega) | exact wu8 (by omega) (by omega) | rfl))) | (apply P_ct; (focus rfl); (focus rfl); (focus rfl); (focus (dsimp only [cmpP]; first | done | omega))) | (apply P_cf; (focus rfl); (focus rfl); (focus rfl); (focus (dsimp only [cmpP]; first | done | omega))) | (apply P_pick_t; (focus rfl); (focus constructor)) | (apply P_pick_f; (focus rfl); (focus constructor)) | (apply P_extract; (focus rfl); (focus rfl)) | (apply P_not; (focus rfl); (focus rfl)) | (apply P_slen; (focus rfl); (focus rfl)) | (apply P_llen; (focus rfl); (focus rfl)) | (apply P_bne; (focus rfl); (focus rfl); (focus rfl); (focus (first | exact bne_self_eq_false _ | rfl))) | (apply P_max; (focus rfl); (focus rfl)) | (apply P_idx1; (focus rfl); (focus rfl); (focus rfl); (focus rfl); (focus rfl); (focus omega)) | (apply P_nilCheck; (focus rfl)) | (apply P_conv; (focus rfl); (focus rfl); (focus rfl); (focus (first | assumption | exact wi64 (by omega) (by omega) | exact wu64 (by omega) (by omega) | exact wi32 (by omega) (by omega) | exact wu8 (by omega) (by omega) | rfl))) | (apply P_sindex0; (focus rfl); (focus rfl); (focus rfl); (focus omega)) | (apply P_sindexN; (focus rfl); (focus rfl); (focus rfl); (focus omega)) | (apply P_sindex; (focus rfl); (focus rfl); (focus rfl); (focus omega); (focus omega)) | (apply P_makeFunc; (focus (repeat constructor)); (focus (repeat constructor))) | (apply P_seq_t; (focus rfl); (focus rfl); (focus (first | assumption | rfl))) | (apply P_seq_f; (focus rfl); (focus rfl); (focus assumption)) | (apply P_sne_t; (focus rfl); (focus rfl); (focus assumption)) | (apply P_sne_f; (focus rfl); (focus rfl); (focus (first | assumption | rfl))) | (apply P_lslice_hi; (focus rfl); (focus rfl); (focus rfl); (focus rfl); (focus rfl); (focus omega); (focus omega)) | (apply P_lslice_lo; (focus rfl); (focus rfl); (focus rfl); (focus rfl); (focus rfl); (focus omega); (focus omega)) | (apply P_sslice_lo; (focus rfl); (focus rfl); (focus rfl); (focus omega); (focus omega)) | (apply P_rem; (focus rfl); (focus rfl); (focus omega); (focus rfl)))); (focus rfl)) | (apply Lst_cs; (focus rfl); (focus rfl); (focus rfl); (focus rfl); all_goals (intro hc; dsimp only [cmpP] at hc))))
  · (apply retQ1; (focus rfl))
    refine ⟨?_, rfl⟩
    split at h3
    · omega
    · exact congrArg (Value.int .i64) (by omega)
  · (apply retQ1; (focus rfl))
    refine ⟨?_, rfl⟩
    split at h3
    · exact congrArg (Value.int .i64) (by omega)
    · omega
end Wire
namespace Val
open Go Go.RowKit Sx Fl
attribute [local irreducible] W Lst Qst Pu seqQ blkQ rndQ cutQ retQ Does Enters IntKind.wrap bits sb World.alloc World.putObj Blk
theorem ord_self_nan {f : Nat} (h : isNaN f = true) : Ieee.double.order f f = none := order_nan f f (.inl h)
theorem ord_self {f : Nat} (h : isNaN f = false) : Ieee.double.order f f = some .eq := by rw [order_eq f f h h, cmp_eq rfl]
theorem c_isNaN (f : Nat) (w : World) : Does Tryz.prog 82 #[.float .f64 f] w fun v w' => v = .bool (isNaN f) ∧ w = w' := by
  refine Does_of (args := [.float .f64 f]) Tryz.func82 (by kernel_rfl) rfl rfl rfl rfl rfl ?_
  cases h : isNaN f
  · have ho := ord_self h
    (refine Gf ?_)
    (apply retQ1; (focus rfl))
    exact ⟨rfl, rfl⟩
  · have ho := ord_self_nan h
    (refine Gf ?_)
    (apply retQ1; (focus rfl))
    exact ⟨rfl, rfl⟩
/-- A float's bits, all NaNs one. -/
def nbits (f : Nat) : Nat := if isNaN f then 9221120237041090560 else f
theorem wrap_big (f : Nat) (h1 : 9223372036854775808 ≤ f) (h2 : f < 18446744073709551616) : IntKind.i64.wrap (f : Int) = (f : Int) - 18446744073709551616 := by
  simp [IntKind.wrap, IntKind.signed, IntKind.bits]
  omega
theorem c_signbit (f : Nat) (hf : f < 18446744073709551616) (w : World) : Does Tryz.prog 104 #[.float .f64 f] w fun v w' => v = .bool (sgn f) ∧ w = w' := by
  refine Does_of (args := [.float .f64 f]) Tryz.func104 (by kernel_rfl) rfl rfl rfl rfl rfl ?_
  by_cases h : f < 9223372036854775808
  · have hs : sgn f = false := by unfold sgn; rw [show f / 9223372036854775808 = 0 by omega]; rfl
    rw [hs]
    have hw : IntKind.i64.wrap (f : Int) = (f : Int) := wi64 (by omega) (by omega)
    (refine Gf ?_)
    (apply retQ1; (focus rfl))
    exact ⟨rfl, rfl⟩
  · have hs : sgn f = true := by unfold sgn; rw [show f / 9223372036854775808 = 1 by omega]; rfl
    rw [hs]
    have hw := wrap_big f (by omega) hf
    (refine Gf ?_)
    (apply retQ1; (focus rfl))
    exact ⟨rfl, rfl⟩
theorem c_nanint (a : Int) (w : World) : Does Tryz.prog 100 #[.int .i64 a] w fun v w' => v = .bool false ∧ w = w' := by
  refine Does_of (args := [.int .i64 a]) Tryz.func100 (by kernel_rfl) rfl rfl rfl rfl rfl ?_
  (refine Gf ?_)
  (apply retQ1; (focus rfl))
  exact ⟨rfl, rfl⟩
theorem c_ints (a b : Int) (w : World) : Does Tryz.prog 90 #[.int .i64 a, .int .i64 b] w fun v w' => v = .int .i64 (if a < b then -1 else if b < a then 1 else 0) ∧ w = w' := by
  refine Does_of (args := [.int .i64 a, .int .i64 b]) Tryz.func90 (by kernel_rfl) rfl rfl rfl rfl rfl ?_
  (refine Gf ?_)
  (apply Lst_call; (focus rfl); (focus rfl))
  refine (c_nanint a w).mono ?_
  rintro v w' ⟨rfl, rfl⟩
  (refine Gf ?_)
  (apply Lst_call; (focus rfl); (focus rfl))
  refine (c_nanint b w).mono ?_
  rintro v w' ⟨rfl, rfl⟩
  by_cases h1 : a < b
  · rw [if_pos h1]
    (refine Gf ?_)
    (apply retQ1; (focus rfl))
    exact ⟨rfl, rfl⟩
  · rw [if_neg h1]
    by_cases h2 : b < a
    · rw [if_pos h2]
      (refine Gf ?_)
      (apply retQ1; (focus rfl))
      exact ⟨rfl, rfl⟩
    · rw [if_neg h2]
      (refine Gf ?_)
      (apply retQ1; (focus rfl))
      exact ⟨rfl, rfl⟩
theorem c_nanint64 (a : Int) (w : World) : Does Tryz.prog 101 #[.int .i64 a] w fun v w' => v = .bool false ∧ w = w' := by
  refine Does_of (args := [.int .i64 a]) Tryz.func101 (by kernel_rfl) rfl rfl rfl rfl rfl ?_
  (refine Gf ?_)
  (apply retQ1; (focus rfl))
  exact ⟨rfl, rfl⟩
theorem c_int64s (a b : Int) (w : World) : Does Tryz.prog 91 #[.int .i64 a, .int .i64 b] w fun v w' => v = .int .i64 (if a < b then -1 else if b < a then 1 else 0) ∧ w = w' := by
  refine Does_of (args := [.int .i64 a, .int .i64 b]) Tryz.func91 (by kernel_rfl) rfl rfl rfl rfl rfl ?_
  (refine Gf ?_)
  (apply Lst_call; (focus rfl); (focus rfl))
  refine (c_nanint64 a w).mono ?_
  rintro v w' ⟨rfl, rfl⟩
  (refine Gf ?_)
  (apply Lst_call; (focus rfl); (focus rfl))
  refine (c_nanint64 b w).mono ?_
  rintro v w' ⟨rfl, rfl⟩
  by_cases h1 : a < b
  · rw [if_pos h1]
    (refine Gf ?_)
    (apply retQ1; (focus rfl))
    exact ⟨rfl, rfl⟩
  · rw [if_neg h1]
    by_cases h2 : b < a
    · rw [if_pos h2]
      (refine Gf ?_)
      (apply retQ1; (focus rfl))
      exact ⟨rfl, rfl⟩
    · rw [if_neg h2]
      (refine Gf ?_)
      (apply retQ1; (focus rfl))
      exact ⟨rfl, rfl⟩
theorem c_nanflt (f : Nat) (w : World) : Does Tryz.prog 118 #[.float .f64 f] w fun v w' => v = .bool (isNaN f) ∧ w = w' := by
  refine Does_of (args := [.float .f64 f]) Tryz.func118 (by kernel_rfl) rfl rfl rfl rfl rfl ?_
  cases h : isNaN f
  · have ho := ord_self h
    (refine Gf ?_)
    (apply retQ1; (focus rfl))
    exact ⟨rfl, rfl⟩
  · have ho := ord_self_nan h
    (refine Gf ?_)
    (apply retQ1; (focus rfl))
    exact ⟨rfl, rfl⟩
/-- What value.rank makes of a float: the two noughts one, a NaN nought. -/
def rankf (f : Nat) : Nat := if isNaN f then 0 else if rung f = 0 then 0 else f
theorem ord_zero_eq {f : Nat} (h : isNaN f = false) (h0 : rung f = 0) : Ieee.double.order f 0 = some .eq := by
  rw [order_eq f 0 h (by rfl), cmp_eq]
  unfold sk
  rw [h0]
  cases sgn f <;> rfl
theorem ord_zero_ne {f : Nat} (h : isNaN f = false) (h0 : rung f ≠ 0) : ∃ c, Ieee.double.order f 0 = some c ∧ c ≠ .eq := by
  rw [order_eq f 0 h (by rfl)]
  have e0 : sk 0 = 0 := rfl
  rw [e0]
  unfold sk
  cases sgn f
  · exact ⟨_, rfl, by rw [if_neg (by simp), cmp_gt (by omega)]; simp⟩
  · exact ⟨_, rfl, by rw [if_pos rfl, cmp_lt (by omega)]; simp⟩
theorem c_rank (f : Nat) (hf : f < 18446744073709551616) (w : World) : Does Tryz.prog 102 #[.float .f64 f] w fun v w' => v = .tuple #[.int .i64 (if isNaN f then 1 else 0), .float .f64 (rankf f)] ∧ w = w' := by
  refine Does_of (args := [.float .f64 f]) Tryz.func102 (by kernel_rfl) rfl rfl rfl rfl rfl ?_
  (refine Gf ?_)
  (apply Lst_call; (focus rfl); (focus rfl))
  refine (c_isNaN f w).mono ?_
  rintro v w' ⟨rfl, rfl⟩
  unfold rankf
  cases h : isNaN f
  · by_cases h0 : rung f = 0
    · have ho := ord_zero_eq h h0
      rw [if_neg (by simp), if_neg (by simp), if_pos h0]
      (refine Gf ?_)
      (apply Lst_call; (focus rfl); (focus rfl))
      refine (c_signbit f hf w).mono ?_
      rintro v w' ⟨rfl, rfl⟩
      cases hs : sgn f
      · have hz : f = 0 := by
          unfold sgn at hs
          unfold rung at h0
          have := beq_eq_false_iff_ne.1 hs
          omega
        subst hz
        (refine Gf ?_)
        (apply retQ2; (focus rfl); (focus rfl))
        exact ⟨rfl, rfl⟩
      · (refine Gf ?_)
        (apply retQ2; (focus rfl); (focus rfl))
        exact ⟨rfl, rfl⟩
    · rw [if_neg (by simp), if_neg (by simp), if_neg h0]
      obtain ⟨c, ho, hc⟩ := ord_zero_ne h h0
      rcases c with _ | _ | _
      · (refine Gf ?_)
        (apply retQ2; (focus rfl); (focus rfl))
        exact ⟨rfl, rfl⟩
      · exact absurd rfl hc
      · (refine Gf ?_)
        (apply retQ2; (focus rfl); (focus rfl))
        exact ⟨rfl, rfl⟩
  · (refine Gf ?_)
    (apply retQ2; (focus rfl); (focus rfl))
    exact ⟨rfl, rfl⟩
end Val
namespace Val
open Go Go.RowKit Sx Fl
attribute [local irreducible] W Lst Qst Pu seqQ blkQ rndQ cutQ retQ Does Enters IntKind.wrap bits sb World.alloc World.putObj Blk
def cmpI (a b : Int) : Int := if a < b then -1 else if b < a then 1 else 0
theorem c_flts (x y : Nat) (hx : isNaN x = false) (hy : isNaN y = false) (w : World) : Does Tryz.prog 103 #[.float .f64 x, .float .f64 y] w fun v w' => v = .int .i64 (cmpI (sk x) (sk y)) ∧ w = w' := by
  refine Does_of (args := [.float .f64 x, .float .f64 y]) Tryz.func103 (by kernel_rfl) rfl rfl rfl rfl rfl ?_
  (refine Gf ?_)
  (apply Lst_call; (focus rfl); (focus rfl))
  refine (c_nanflt x w).mono ?_
  rintro v w' ⟨hv, rfl⟩
  rw [hx] at hv; subst hv
  (refine Gf ?_)
  (apply Lst_call; (focus rfl); (focus rfl))
  refine (c_nanflt y w).mono ?_
  rintro v w' ⟨hv, rfl⟩
  rw [hy] at hv; subst hv
  have ho := order_eq x y hx hy
  unfold cmpI
  by_cases h1 : sk x < sk y
  · rw [if_pos h1]
    rw [cmp_lt h1] at ho
    (refine Gf ?_)
    (apply retQ1; (focus rfl))
    exact ⟨rfl, rfl⟩
  · rw [if_neg h1]
    by_cases h2 : sk y < sk x
    · rw [if_pos h2]
      rw [cmp_gt h2] at ho
      (refine Gf ?_)
      (apply retQ1; (focus rfl))
      exact ⟨rfl, rfl⟩
    · rw [if_neg h2]
      rw [cmp_eq (by omega)] at ho
      (refine Gf ?_)
      (apply retQ1; (focus rfl))
      exact ⟨rfl, rfl⟩
/-- Where a float stands. -/
def K (f : Nat) : Int := if isNaN f then 9223372036854775807 else if sgn f then -1 - (rung f : Int) else (rung f : Int)
theorem rankf_nan {f : Nat} (h : isNaN f = true) : rankf f = 0 := by unfold rankf; rw [if_pos h]
theorem nan_rankf (f : Nat) : isNaN (rankf f) = false := by
  unfold rankf
  cases h : isNaN f
  · by_cases h0 : rung f = 0
    · rw [if_neg (by simp), if_pos h0]; rfl
    · rw [if_neg (by simp), if_neg h0]; exact h
  · rfl
theorem sk_rankf {f : Nat} (h : isNaN f = false) : sk (rankf f) = sk f := by
  unfold rankf
  by_cases h0 : rung f = 0
  · rw [h, if_neg (by simp), if_pos h0]
    unfold sk
    rw [h0]
    cases sgn f <;> rfl
  · rw [h, if_neg (by simp), if_neg h0]
theorem rung_lt {f : Nat} (h : isNaN f = false) : rung f ≤ 9218868437227405312 := by
  unfold isNaN at h
  exact Nat.le_of_not_lt (of_decide_eq_false h)
theorem K_nan {f : Nat} (h : isNaN f = true) : K f = 9223372036854775807 := by unfold K; rw [if_pos h]
theorem K_num {f : Nat} (h : isNaN f = false) : K f = if sgn f then -1 - (rung f : Int) else (rung f : Int) := by unfold K; rw [if_neg (by simp [h])]
theorem K_lt_nan {f : Nat} (h : isNaN f = false) : K f < 9223372036854775807 := by
  have := rung_lt h
  rw [K_num h]
  cases sgn f
  · rw [if_neg (by simp)]; omega
  · rw [if_pos rfl]; omega
theorem K_lt {a b : Nat} (ha : isNaN a = false) (hb : isNaN b = false) (h : sk a < sk b) : K a < K b := by
  rw [K_num ha, K_num hb]
  unfold sk at h
  cases hs : sgn a <;> cases ht : sgn b <;> rw [hs, ht] at h <;> simp only [Bool.false_eq_true, if_false, if_true] at h ⊢ <;> omega
theorem c_floats (a b : Nat) (ha : a < 18446744073709551616) (hb : b < 18446744073709551616) (w : World) : Does Tryz.prog 92 #[.float .f64 a, .float .f64 b] w fun v w' => v = .int .i64 (cmpI (K a) (K b)) ∧ w = w' := by
  refine Does_of (args := [.float .f64 a, .float .f64 b]) Tryz.func92 (by kernel_rfl) rfl rfl rfl rfl rfl ?_
  (refine Gf ?_)
  (apply Lst_call; (focus rfl); (focus rfl))
  refine (c_rank a ha w).mono ?_
  rintro v w' ⟨hv1, rfl⟩
  cases na : isNaN a <;> (rw [na] at hv1; try simp only [if_true, if_false, Bool.false_eq_true] at hv1) <;> subst hv1
  · (refine Gf ?_)
    (apply Lst_call; (focus rfl); (focus rfl))
    refine (c_rank b hb w).mono ?_
    rintro v w' ⟨hv2, rfl⟩
    cases nb : isNaN b <;> (rw [nb] at hv2; try simp only [if_true, if_false, Bool.false_eq_true] at hv2) <;> subst hv2
    · have ho := order_eq _ _ (nan_rankf a) (nan_rankf b)
      have hc := c_flts (rankf a) (rankf b) (nan_rankf a) (nan_rankf b) w
      rw [sk_rankf na, sk_rankf nb] at ho hc
      by_cases h1 : sk a < sk b
      · have hk := K_lt na nb h1
        rw [cmp_lt h1] at ho
        (refine Gf ?_)
        (apply Lst_call; (focus rfl); (focus rfl))
        refine hc.mono ?_
        rintro v w' ⟨rfl, rfl⟩
        (refine Gf ?_)
        (apply retQ1; (focus rfl))
        refine ⟨?_, rfl⟩
        unfold cmpI; rw [if_pos h1, if_pos hk]; rfl
      · by_cases h2 : sk b < sk a
        · have hk := K_lt nb na h2
          rw [cmp_gt h2] at ho
          (refine Gf ?_)
          (apply Lst_call; (focus rfl); (focus rfl))
          refine hc.mono ?_
          rintro v w' ⟨rfl, rfl⟩
          (refine Gf ?_)
          (apply retQ1; (focus rfl))
          refine ⟨?_, rfl⟩
          unfold cmpI; rw [if_neg h1, if_pos h2, if_neg (by omega), if_pos hk]; rfl
        · have he : sk a = sk b := by omega
          rw [cmp_eq he] at ho
          by_cases h0 : rung a = 0
          · have h0' : rung b = 0 := by
              unfold sk at he
              rw [h0] at he
              cases hs : sgn a <;> cases ht : sgn b <;> rw [hs, ht] at he <;> simp only [Bool.false_eq_true, if_false, if_true] at he <;> omega
            have oa := ord_zero_eq na h0
            have ob := ord_zero_eq nb h0'
            (refine Gf ?_)
            (apply Lst_call; (focus rfl); (focus rfl))
            refine (c_signbit a ha w).mono ?_
            rintro v w' ⟨rfl, rfl⟩
            (refine Gf ?_)
            (apply Lst_call; (focus rfl); (focus rfl))
            refine (c_signbit b hb w).mono ?_
            rintro v w' ⟨rfl, rfl⟩
            rw [K_num na, K_num nb, h0, h0']
            cases hs : sgn a <;> cases ht : sgn b
            · (refine Gf ?_)
              (apply retQ1; (focus rfl))
              exact ⟨rfl, rfl⟩
            · (refine Gf ?_)
              (apply Lst_call; (focus rfl); (focus rfl))
              refine (c_signbit a ha w).mono ?_
              rintro v w' ⟨rfl, rfl⟩
              rw [hs]
              (refine Gf ?_)
              (apply retQ1; (focus rfl))
              exact ⟨rfl, rfl⟩
            · (refine Gf ?_)
              (apply Lst_call; (focus rfl); (focus rfl))
              refine (c_signbit a ha w).mono ?_
              rintro v w' ⟨rfl, rfl⟩
              rw [hs]
              (refine Gf ?_)
              (apply retQ1; (focus rfl))
              exact ⟨rfl, rfl⟩
            · (refine Gf ?_)
              (apply retQ1; (focus rfl))
              exact ⟨rfl, rfl⟩
          · obtain ⟨c, oa, hne⟩ := ord_zero_ne na h0
            have hk : K a = K b := by
              rw [K_num na, K_num nb]
              unfold sk at he
              cases hs : sgn a <;> cases ht : sgn b <;> rw [hs, ht] at he <;> simp only [Bool.false_eq_true, if_false, if_true] at he ⊢ <;> omega
            rw [hk]
            have hz : cmpI (K b) (K b) = 0 := by unfold cmpI; rw [if_neg (by omega), if_neg (by omega)]
            rw [hz]
            rcases c with _ | _ | _
            · (refine Gf ?_)
              (apply retQ1; (focus rfl))
              exact ⟨rfl, rfl⟩
            · exact absurd rfl hne
            · (refine Gf ?_)
              (apply retQ1; (focus rfl))
              exact ⟨rfl, rfl⟩
    · have hk := K_lt_nan na
      (refine Gf ?_)
      (apply Lst_call; (focus rfl); (focus rfl))
      refine (c_ints _ _ w).mono ?_
      rintro v w' ⟨hv, rfl⟩
      rw [if_pos (by omega)] at hv; subst hv
      (refine Gf ?_)
      (apply retQ1; (focus rfl))
      refine ⟨?_, rfl⟩
      rw [K_nan nb]
      unfold cmpI; rw [if_pos hk]; rfl
  · (refine Gf ?_)
    (apply Lst_call; (focus rfl); (focus rfl))
    refine (c_rank b hb w).mono ?_
    rintro v w' ⟨hv2, rfl⟩
    cases nb : isNaN b <;> (rw [nb] at hv2; try simp only [if_true, if_false, Bool.false_eq_true] at hv2) <;> subst hv2
    · have hk := K_lt_nan nb
      (refine Gf ?_)
      (apply Lst_call; (focus rfl); (focus rfl))
      refine (c_ints _ _ w).mono ?_
      rintro v w' ⟨hv, rfl⟩
      rw [if_neg (by omega), if_pos (by omega)] at hv; subst hv
      (refine Gf ?_)
      (apply retQ1; (focus rfl))
      refine ⟨?_, rfl⟩
      rw [K_nan na]
      unfold cmpI; rw [if_neg (by omega), if_pos hk]; rfl
    · rw [rankf_nan na, rankf_nan nb, K_nan na, K_nan nb]
      (refine Gf ?_)
      (apply Lst_call; (focus rfl); (focus rfl))
      refine (c_flts 0 0 rfl rfl w).mono ?_
      rintro v w' ⟨rfl, rfl⟩
      (refine Gf ?_)
      (apply retQ1; (focus rfl))
      exact ⟨rfl, rfl⟩
end Val
namespace Val
open Go Go.RowKit Sx Fl
theorem c_strings (a b : ByteArray) (w : World) : Does Tryz.prog 93 #[.string a, .string b] w fun v w' => v = .int .i64 (cmpS a b) ∧ w = w' := by
  refine ⟨Sx.enters_of Tryz.func93 (by kernel_rfl) rfl, (Tryz.strings_Compare a b w).mono fun e w' h => ⟨_, h.1, rfl, h.2.symm⟩⟩
attribute [local irreducible] W Lst Qst Pu seqQ blkQ rndQ cutQ retQ Does Enters IntKind.wrap bits sb World.alloc World.putObj Blk
theorem Ints.of_blk {w : World} {b : Nat} {k : IntKind} {zs : List Int} {e : TypeId} (c : Nat) (h : Blk w b (zs.map (Value.int k)) e) : Ints w k (.slice (some ⟨b, 0, none⟩) zs.length c) zs :=
  ⟨b, 0, c, .inl rfl, fun _ => h.lt, fun j hj => by
    unfold Blk at h
    simp [World.cell?, h, hj]⟩
def orL : List Int → Int
  | [] => 0
  | a :: l => if a ≠ 0 then a else orL l
theorem orL_drop (zs : List Int) (k : Nat) (hk : k < zs.length) : orL (zs.drop k) = if zs.getD k 0 ≠ 0 then zs.getD k 0 else orL (zs.drop (k + 1)) := by
  rw [List.drop_eq_getElem_cons hk]
  simp [orL, List.getD, hk]
theorem c_or (b : Option Addr) (c : Nat) (zs : List Int) (w : World) (h : Ints w .i64 (.slice b zs.length c) zs) (hl : zs.length ≤ 1000) : Does Tryz.prog 89 #[.slice b zs.length c] w fun v w' => v = .int .i64 (orL zs) ∧ w = w' := by
  refine Does_of (args := [.slice b zs.length c]) Tryz.func89 (by kernel_rfl) rfl rfl rfl rfl rfl ?_
  (refine Ga ?_)
  refine W_loop (α := Nat) (fun k => [(3, .int .i64 0), (6, .slice b zs.length c), (7, .int .i64 zs.length), (8, .int .i64 (k : Int))])
    (fun k A => k ≤ zs.length ∧ orL (zs.drop k) = orL zs ∧ w = A) (fun k _ => zs.length - k) 0 ⟨Nat.zero_le _, rfl, rfl⟩ ⟨rfl, rfl, rfl, rfl, trivial⟩ ?_
  rintro K k A ⟨hk, ho, rfl⟩
  (repeat' (first | (apply W_seq) | (apply W_region) | (apply W_block) | (apply W_skip) | (apply W_ret) | (apply W_exit) | (apply W_cond_t; (focus rfl)) | (apply W_cond_f; (focus rfl)) | (apply Lst_nil) | (apply seqQ_n) | (apply seqQ_r) | (apply seqQ_e) | (apply blkQ_n) | (apply blkQ_r) | (apply blkQ_e) | (apply rndQ_r) | (apply rndQ_e) | (apply cutQ_r) | (apply cutQ_e) | (apply Lst_guard_t; (focus rfl); (focus rfl)) | (apply Lst_guard_f; (focus rfl); (focus rfl); (focus rfl); (focus rfl)) | (apply Lst_guard_u; (focus rfl); (focus rfl); (focus rfl)) | (apply Lst_alloc; (focus rfl); (focus rfl); (focus rfl); (focus ((try simp only [Sx.sizes]); first | done | rfl)); (focus rfl)) | (apply Lst_box; (focus constructor); (focus rfl); (focus ((try simp only [Sx.sizes]); first | done | rfl)); (focus rfl)) | (apply Lst_load; (focus rfl); (focus rfl); (focus rfl); (focus ((repeat (first | assumption | (apply Blk.below (hb := hb1); rotate_left; (focus ((try simp only [Sx.sizes]); omega)); rotate_right) | (apply Blk.below (hb := hb2); rotate_left; (focus ((try simp only [Sx.sizes]); omega)); rotate_right) | (apply Blk.below (hb := hb3); rotate_left; (focus ((try simp only [Sx.sizes]); omega)); rotate_right) | (apply Blk.below (hb := hb4); rotate_left; (focus ((try simp only [Sx.sizes]); omega)); rotate_right) | (apply Blk.below (hb := hb5); rotate_left; (focus ((try simp only [Sx.sizes]); omega)); rotate_right) | (apply Blk.below (hb := hb6); rotate_left; (focus ((try simp only [Sx.sizes]); omega)); rotate_right) | (apply Blk.below (hb := hb7); rotate_left; (focus ((try simp only [Sx.sizes]); omega)); rotate_right) | (apply Blk.below (hb := hb8); rotate_left; (focus ((try simp only [Sx.sizes]); omega)); rotate_right) | (apply Blk.below (hb := hb9); rotate_left; (focus ((try simp only [Sx.sizes]); omega)); rotate_right) | exact Blk.newE (by first | rfl | ((try simp only [Sx.sizes]); first | done | omega)) _ _ | exact Blk.put_same (by (try simp only [Sx.sizes]); first | done | omega) _ _ | (apply Blk.put_ne; (focus omega)) | apply Blk.alloc | apply Blk.drew)); done)); (focus rfl); (focus rfl)) | (apply Lst_loadc; (focus rfl); (focus rfl); (focus rfl); (focus assumption); (focus rfl)) | (apply Lst_store; (focus rfl); (focus constructor); (focus rfl); (focus rfl); (focus rfl); (focus rfl); (focus ((repeat (first | assumption | (apply Blk.below (hb := hb1); rotate_left; (focus ((try simp only [Sx.sizes]); omega)); rotate_right) | (apply Blk.below (hb := hb2); rotate_left; (focus ((try simp only [Sx.sizes]); omega)); rotate_right) | (apply Blk.below (hb := hb3); rotate_left; (focus ((try simp only [Sx.sizes]); omega)); rotate_right) | (apply Blk.below (hb := hb4); rotate_left; (focus ((try simp only [Sx.sizes]); omega)); rotate_right) | (apply Blk.below (hb := hb5); rotate_left; (focus ((try simp only [Sx.sizes]); omega)); rotate_right) | (apply Blk.below (hb := hb6); rotate_left; (focus ((try simp only [Sx.sizes]); omega)); rotate_right) | (apply Blk.below (hb := hb7); rotate_left; (focus ((try simp only [Sx.sizes]); omega)); rotate_right) | (apply Blk.below (hb := hb8); rotate_left; (focus ((try simp only [Sx.sizes]); omega)); rotate_right) | (apply Blk.below (hb := hb9); rotate_left; (focus ((try simp only [Sx.sizes]); omega)); rotate_right) | exact Blk.newE (by first | rfl | ((try simp only [Sx.sizes]); first | done | omega)) _ _ | exact Blk.put_same (by (try simp only [Sx.sizes]); first | done | omega) _ _ | (apply Blk.put_ne; (focus omega)) | apply Blk.alloc | apply Blk.drew)); done)); (focus ((repeat constructor); done))) | (apply Lst_pu; (focus (first | (apply P_move; (focus constructor)) | (apply P_assign; (focus constructor)) | (apply P_ar; (focus rfl); (focus rfl); (focus rfl); (focus (first | assumption | exact wi64 (by omega) (by omega) | exact wu64 (by omega) (by omega) | exact wi32 (by omega) (by omega) | exact wu8 (by omega) (by omega) | rfl))) | (apply P_ct; (focus rfl); (focus rfl); (focus rfl); (focus (dsimp only [cmpP]; first | done | omega))) | (apply P_cf; (focus rfl); (focus rfl); (focus rfl); (focus (dsimp only [cmpP]; first | done | omega))) | (apply P_pick_t; (focus rfl); (focus constructor)) | (apply P_pick_f; (focus rfl); (focus constructor)) | (apply P_extract; (focus rfl); (focus rfl)) | (apply P_not; (focus rfl); (focus rfl)) | (apply P_slen; (focus rfl); (focus rfl)) | (apply P_llen; (focus rfl); (focus rfl)) | (apply P_bne; (focus rfl); (focus rfl); (focus rfl); (focus (first | exact bne_self_eq_false _ | rfl))) | (apply P_max; (focus rfl); (focus rfl)) | (apply P_idx1; (focus rfl); (focus rfl); (focus rfl); (focus rfl); (focus rfl); (focus omega)) | (apply P_nilCheck; (focus rfl)) | (apply P_conv; (focus rfl); (focus rfl); (focus rfl); (focus (first | assumption | exact wi64 (by omega) (by omega) | exact wu64 (by omega) (by omega) | exact wi32 (by omega) (by omega) | exact wu8 (by omega) (by omega) | rfl))) | (apply P_sindex0; (focus rfl); (focus rfl); (focus rfl); (focus omega)) | (apply P_sindexN; (focus rfl); (focus rfl); (focus rfl); (focus omega)) | (apply P_sindex; (focus rfl); (focus rfl); (focus rfl); (focus omega); (focus omega)) | (apply P_makeFunc; (focus (repeat constructor)); (focus (repeat constructor))) | (apply P_seq_t; (focus rfl); (focus rfl); (focus (first | assumption | rfl))) | (apply P_seq_f; (focus rfl); (focus rfl); (focus assumption)) | (apply P_sne_t; (focus rfl); (focus rfl); (focus assumption)) | (apply P_sne_f; (focus rfl); (focus rfl); (focus (first | assumption | rfl))))); (focus rfl)) | (apply Lst_cs; (focus rfl); (focus rfl); (focus rfl); (focus rfl); all_goals (intro hc; dsimp only [cmpP] at hc))))
  · have hlt : k < zs.length := by omega
    obtain ⟨g, off, rfl, hcell⟩ := h.at hlt
    rw [orL_drop zs k hlt] at ho
    (repeat' (first | (apply W_seq) | (apply W_region) | (apply W_block) | (apply W_skip) | (apply W_ret) | (apply W_exit) | (apply W_cond_t; (focus rfl)) | (apply W_cond_f; (focus rfl)) | (apply Lst_nil) | (apply seqQ_n) | (apply seqQ_r) | (apply seqQ_e) | (apply blkQ_n) | (apply blkQ_r) | (apply blkQ_e) | (apply rndQ_r) | (apply rndQ_e) | (apply cutQ_r) | (apply cutQ_e) | (apply Lst_guard_t; (focus rfl); (focus rfl)) | (apply Lst_guard_f; (focus rfl); (focus rfl); (focus rfl); (focus rfl)) | (apply Lst_guard_u; (focus rfl); (focus rfl); (focus rfl)) | (apply Lst_alloc; (focus rfl); (focus rfl); (focus rfl); (focus ((try simp only [Sx.sizes]); first | done | rfl)); (focus rfl)) | (apply Lst_box; (focus constructor); (focus rfl); (focus ((try simp only [Sx.sizes]); first | done | rfl)); (focus rfl)) | (apply Lst_load; (focus rfl); (focus rfl); (focus rfl); (focus ((repeat (first | assumption | (apply Blk.below (hb := hb1); rotate_left; (focus ((try simp only [Sx.sizes]); omega)); rotate_right) | (apply Blk.below (hb := hb2); rotate_left; (focus ((try simp only [Sx.sizes]); omega)); rotate_right) | (apply Blk.below (hb := hb3); rotate_left; (focus ((try simp only [Sx.sizes]); omega)); rotate_right) | (apply Blk.below (hb := hb4); rotate_left; (focus ((try simp only [Sx.sizes]); omega)); rotate_right) | (apply Blk.below (hb := hb5); rotate_left; (focus ((try simp only [Sx.sizes]); omega)); rotate_right) | (apply Blk.below (hb := hb6); rotate_left; (focus ((try simp only [Sx.sizes]); omega)); rotate_right) | (apply Blk.below (hb := hb7); rotate_left; (focus ((try simp only [Sx.sizes]); omega)); rotate_right) | (apply Blk.below (hb := hb8); rotate_left; (focus ((try simp only [Sx.sizes]); omega)); rotate_right) | (apply Blk.below (hb := hb9); rotate_left; (focus ((try simp only [Sx.sizes]); omega)); rotate_right) | exact Blk.newE (by first | rfl | ((try simp only [Sx.sizes]); first | done | omega)) _ _ | exact Blk.put_same (by (try simp only [Sx.sizes]); first | done | omega) _ _ | (apply Blk.put_ne; (focus omega)) | apply Blk.alloc | apply Blk.drew)); done)); (focus rfl); (focus rfl)) | (apply Lst_loadc; (focus rfl); (focus rfl); (focus rfl); (focus assumption); (focus rfl)) | (apply Lst_store; (focus rfl); (focus constructor); (focus rfl); (focus rfl); (focus rfl); (focus rfl); (focus ((repeat (first | assumption | (apply Blk.below (hb := hb1); rotate_left; (focus ((try simp only [Sx.sizes]); omega)); rotate_right) | (apply Blk.below (hb := hb2); rotate_left; (focus ((try simp only [Sx.sizes]); omega)); rotate_right) | (apply Blk.below (hb := hb3); rotate_left; (focus ((try simp only [Sx.sizes]); omega)); rotate_right) | (apply Blk.below (hb := hb4); rotate_left; (focus ((try simp only [Sx.sizes]); omega)); rotate_right) | (apply Blk.below (hb := hb5); rotate_left; (focus ((try simp only [Sx.sizes]); omega)); rotate_right) | (apply Blk.below (hb := hb6); rotate_left; (focus ((try simp only [Sx.sizes]); omega)); rotate_right) | (apply Blk.below (hb := hb7); rotate_left; (focus ((try simp only [Sx.sizes]); omega)); rotate_right) | (apply Blk.below (hb := hb8); rotate_left; (focus ((try simp only [Sx.sizes]); omega)); rotate_right) | (apply Blk.below (hb := hb9); rotate_left; (focus ((try simp only [Sx.sizes]); omega)); rotate_right) | exact Blk.newE (by first | rfl | ((try simp only [Sx.sizes]); first | done | omega)) _ _ | exact Blk.put_same (by (try simp only [Sx.sizes]); first | done | omega) _ _ | (apply Blk.put_ne; (focus omega)) | apply Blk.alloc | apply Blk.drew)); done)); (focus ((repeat constructor); done))) | (apply Lst_pu; (focus (first | (apply P_move; (focus constructor)) | (apply P_assign; (focus constructor)) | (apply P_ar; (focus rfl); (focus rfl); (focus rfl); (focus (first | assumption | exact wi64 (by omega) (by omega) | exact wu64 (by omega) (by omega) | exact wi32 (by omega) (by omega) | exact wu8 (by omega) (by omega) | rfl))) | (apply P_ct; (focus rfl); (focus rfl); (focus rfl); (focus (dsimp only [cmpP]; first | done | omega))) | (apply P_cf; (focus rfl); (focus rfl); (focus rfl); (focus (dsimp only [cmpP]; first | done | omega))) | (apply P_pick_t; (focus rfl); (focus constructor)) | (apply P_pick_f; (focus rfl); (focus constructor)) | (apply P_extract; (focus rfl); (focus rfl)) | (apply P_not; (focus rfl); (focus rfl)) | (apply P_slen; (focus rfl); (focus rfl)) | (apply P_llen; (focus rfl); (focus rfl)) | (apply P_bne; (focus rfl); (focus rfl); (focus rfl); (focus (first | exact bne_self_eq_false _ | rfl))) | (apply P_max; (focus rfl); (focus rfl)) | (apply P_idx1; (focus rfl); (focus rfl); (focus rfl); (focus rfl); (focus rfl); (focus omega)) | (apply P_nilCheck; (focus rfl)) | (apply P_conv; (focus rfl); (focus rfl); (focus rfl); (focus (first | assumption | exact wi64 (by omega) (by omega) | exact wu64 (by omega) (by omega) | exact wi32 (by omega) (by omega) | exact wu8 (by omega) (by omega) | rfl))) | (apply P_sindex0; (focus rfl); (focus rfl); (focus rfl); (focus omega)) | (apply P_sindexN; (focus rfl); (focus rfl); (focus rfl); (focus omega)) | (apply P_sindex; (focus rfl); (focus rfl); (focus rfl); (focus omega); (focus omega)) | (apply P_makeFunc; (focus (repeat constructor)); (focus (repeat constructor))) | (apply P_seq_t; (focus rfl); (focus rfl); (focus (first | assumption | rfl))) | (apply P_seq_f; (focus rfl); (focus rfl); (focus assumption)) | (apply P_sne_t; (focus rfl); (focus rfl); (focus assumption)) | (apply P_sne_f; (focus rfl); (focus rfl); (focus (first | assumption | rfl))))); (focus rfl)) | (apply Lst_cs; (focus rfl); (focus rfl); (focus rfl); (focus rfl); all_goals (intro hc; dsimp only [cmpP] at hc))))
    · rw [if_pos hc] at ho
      (apply retQ1; (focus rfl))
      exact ⟨by rw [← ho]; rfl, rfl⟩
    · rw [if_neg hc] at ho
      refine rndQ_n (k + 1) ⟨by omega, ho, rfl⟩ ⟨rfl, rfl, rfl, rfl, trivial⟩ (by omega)
  · obtain rfl : k = zs.length := by omega
    rw [List.drop_length] at ho
    (apply retQ1; (focus rfl))
    exact ⟨by rw [← ho]; rfl, rfl⟩
/-- A value. -/
structure Vl where
  k : Int
  n : Int
  f : Nat
  s : ByteArray
def Vl.v (x : Vl) : Value := .agg #[.int .i64 x.k, .int .i64 x.n, .float .f64 x.f, .string x.s]
structure Vl.Fit (x : Vl) : Prop where
  k0 : -9223372036854775808 ≤ x.k
  k1 : x.k < 9223372036854775808
  n0 : -9223372036854775808 ≤ x.n
  n1 : x.n < 9223372036854775808
  f1 : x.f < 18446744073709551616
  s1 : x.s.size < 140737488355328
/-- Two values in order. -/
def cmpV (x y : Vl) : Int := orL [cmpI x.k y.k, cmpI x.n y.n, cmpI (K x.f) (K y.f), cmpS x.s y.s]
theorem c_Cmp (x y : Vl) (hx : x.Fit) (hy : y.Fit) (w : World) : Does Tryz.prog 75 #[x.v, y.v] w fun v w' => v = .int .i64 (cmpV x y) ∧ Below w.heap.size w w' := by
  obtain ⟨k, n, f, s⟩ := x
  obtain ⟨k', n', f', s'⟩ := y
  refine Does_of (args := [.agg #[.int .i64 k, .int .i64 n, .float .f64 f, .string s], .agg #[.int .i64 k', .int .i64 n', .float .f64 f', .string s']]) Tryz.func75 (by kernel_rfl) rfl rfl rfl rfl rfl ?_
  (refine Gf ?_)
  refine W_draw 20 (fun A' => A' = World.drew _) rfl (by kernel_rfl) rfl ?_
  (refine Qf ?_)
  apply Qst_call (.int .i64 (cmpI k k'))
  focus rfl
  focus rfl
  · rintro _ rfl
    exact (c_ints k k' _).mono fun v w' h => ⟨h.1, h.2.symm⟩
  (refine Qf ?_)
  apply Qst_call (.int .i64 (cmpI n n'))
  focus rfl
  focus rfl
  · rintro _ rfl
    exact (c_int64s n n' _).mono fun v w' h => ⟨h.1, h.2.symm⟩
  (refine Qf ?_)
  apply Qst_call (.int .i64 (cmpI (K f) (K f')))
  focus rfl
  focus rfl
  · rintro _ rfl
    exact (c_floats f f' hx.f1 hy.f1 _).mono fun v w' h => ⟨h.1, h.2.symm⟩
  (refine Qf ?_)
  apply Qst_call (.int .i64 (cmpS s s'))
  focus rfl
  focus rfl
  · rintro _ rfl
    exact (c_strings s s' _).mono fun v w' h => ⟨h.1, h.2.symm⟩
  (refine Qf ?_)
  rintro _ rfl
  (refine Gf ?_)
  (apply Lst_slit; (focus rfl); (focus rfl); (focus rfl); (focus rfl); (focus rfl); (focus rfl); (focus rfl); (focus rfl); (focus rfl); (focus (repeat (first | apply FillO.nil | (apply FillO.cons; (focus constructor); (focus rfl); (focus rfl); (focus (repeat constructor)))))); (focus ((try simp only [Sx.sizes]); first | done | rfl)); (focus rfl))
  (refine Gf ?_)
  (apply Lst_call; (focus rfl); (focus rfl))
  refine (c_or _ 4 [cmpI k k', cmpI n n', cmpI (K f) (K f'), cmpS s s'] _ ?_ (by simp)).mono ?_
  · exact Ints.of_blk (e := 3) 4 (by (repeat (first | assumption | (apply Blk.below (hb := hb1); rotate_left; (focus ((try simp only [Sx.sizes]); omega)); rotate_right) | (apply Blk.below (hb := hb2); rotate_left; (focus ((try simp only [Sx.sizes]); omega)); rotate_right) | (apply Blk.below (hb := hb3); rotate_left; (focus ((try simp only [Sx.sizes]); omega)); rotate_right) | (apply Blk.below (hb := hb4); rotate_left; (focus ((try simp only [Sx.sizes]); omega)); rotate_right) | (apply Blk.below (hb := hb5); rotate_left; (focus ((try simp only [Sx.sizes]); omega)); rotate_right) | (apply Blk.below (hb := hb6); rotate_left; (focus ((try simp only [Sx.sizes]); omega)); rotate_right) | (apply Blk.below (hb := hb7); rotate_left; (focus ((try simp only [Sx.sizes]); omega)); rotate_right) | (apply Blk.below (hb := hb8); rotate_left; (focus ((try simp only [Sx.sizes]); omega)); rotate_right) | (apply Blk.below (hb := hb9); rotate_left; (focus ((try simp only [Sx.sizes]); omega)); rotate_right) | exact Blk.newE (by first | rfl | ((try simp only [Sx.sizes]); first | done | omega)) _ _ | exact Blk.put_same (by (try simp only [Sx.sizes]); first | done | omega) _ _ | (apply Blk.put_ne; (focus omega)) | apply Blk.alloc | apply Blk.drew)); done)
  rintro v w' ⟨rfl, rfl⟩
  (refine Gf ?_)
  (apply retQ1; (focus rfl))
  exact ⟨rfl, Bel⟩
theorem c_Same (x y : Vl) (hx : x.Fit) (hy : y.Fit) (w : World) : Does Tryz.prog 44 #[x.v, y.v] w fun v w' => v = .bool (decide (cmpV x y = 0)) ∧ Below w.heap.size w w' := by
  refine Does_of (args := [x.v, y.v]) Tryz.func44 (by kernel_rfl) rfl rfl rfl rfl rfl ?_
  (refine Gf ?_)
  (apply Lst_call; (focus rfl); (focus rfl))
  refine (c_Cmp x y hx hy _).mono ?_
  rintro v w1 ⟨rfl, hb1⟩
  have b1 := Sx.Below.after (w := w) Bel hb1
  have s1 := hb1.size
  try simp only [Sx.sizes] at s1
  (repeat' (first | (apply W_seq) | (apply W_region) | (apply W_block) | (apply W_skip) | (apply W_ret) | (apply W_exit) | (apply W_cond_t; (focus rfl)) | (apply W_cond_f; (focus rfl)) | (apply Lst_nil) | (apply seqQ_n) | (apply seqQ_r) | (apply seqQ_e) | (apply blkQ_n) | (apply blkQ_r) | (apply blkQ_e) | (apply rndQ_r) | (apply rndQ_e) | (apply cutQ_r) | (apply cutQ_e) | (apply Lst_guard_t; (focus rfl); (focus rfl)) | (apply Lst_guard_f; (focus rfl); (focus rfl); (focus rfl); (focus rfl)) | (apply Lst_guard_u; (focus rfl); (focus rfl); (focus rfl)) | (apply Lst_alloc; (focus rfl); (focus rfl); (focus rfl); (focus ((try simp only [Sx.sizes]); first | done | rfl)); (focus rfl)) | (apply Lst_box; (focus constructor); (focus rfl); (focus ((try simp only [Sx.sizes]); first | done | rfl)); (focus rfl)) | (apply Lst_load; (focus rfl); (focus rfl); (focus rfl); (focus ((repeat (first | assumption | (apply Blk.below (hb := hb1); rotate_left; (focus ((try simp only [Sx.sizes]); omega)); rotate_right) | (apply Blk.below (hb := hb2); rotate_left; (focus ((try simp only [Sx.sizes]); omega)); rotate_right) | (apply Blk.below (hb := hb3); rotate_left; (focus ((try simp only [Sx.sizes]); omega)); rotate_right) | (apply Blk.below (hb := hb4); rotate_left; (focus ((try simp only [Sx.sizes]); omega)); rotate_right) | (apply Blk.below (hb := hb5); rotate_left; (focus ((try simp only [Sx.sizes]); omega)); rotate_right) | (apply Blk.below (hb := hb6); rotate_left; (focus ((try simp only [Sx.sizes]); omega)); rotate_right) | (apply Blk.below (hb := hb7); rotate_left; (focus ((try simp only [Sx.sizes]); omega)); rotate_right) | (apply Blk.below (hb := hb8); rotate_left; (focus ((try simp only [Sx.sizes]); omega)); rotate_right) | (apply Blk.below (hb := hb9); rotate_left; (focus ((try simp only [Sx.sizes]); omega)); rotate_right) | exact Blk.newE (by first | rfl | ((try simp only [Sx.sizes]); first | done | omega)) _ _ | exact Blk.put_same (by (try simp only [Sx.sizes]); first | done | omega) _ _ | (apply Blk.put_ne; (focus omega)) | apply Blk.alloc | apply Blk.drew)); done)); (focus rfl); (focus rfl)) | (apply Lst_loadc; (focus rfl); (focus rfl); (focus rfl); (focus assumption); (focus rfl)) | (apply Lst_store; (focus rfl); (focus constructor); (focus rfl); (focus rfl); (focus rfl); (focus rfl); (focus ((repeat (first | assumption | (apply Blk.below (hb := hb1); rotate_left; (focus ((try simp only [Sx.sizes]); omega)); rotate_right) | (apply Blk.below (hb := hb2); rotate_left; (focus ((try simp only [Sx.sizes]); omega)); rotate_right) | (apply Blk.below (hb := hb3); rotate_left; (focus ((try simp only [Sx.sizes]); omega)); rotate_right) | (apply Blk.below (hb := hb4); rotate_left; (focus ((try simp only [Sx.sizes]); omega)); rotate_right) | (apply Blk.below (hb := hb5); rotate_left; (focus ((try simp only [Sx.sizes]); omega)); rotate_right) | (apply Blk.below (hb := hb6); rotate_left; (focus ((try simp only [Sx.sizes]); omega)); rotate_right) | (apply Blk.below (hb := hb7); rotate_left; (focus ((try simp only [Sx.sizes]); omega)); rotate_right) | (apply Blk.below (hb := hb8); rotate_left; (focus ((try simp only [Sx.sizes]); omega)); rotate_right) | (apply Blk.below (hb := hb9); rotate_left; (focus ((try simp only [Sx.sizes]); omega)); rotate_right) | exact Blk.newE (by first | rfl | ((try simp only [Sx.sizes]); first | done | omega)) _ _ | exact Blk.put_same (by (try simp only [Sx.sizes]); first | done | omega) _ _ | (apply Blk.put_ne; (focus omega)) | apply Blk.alloc | apply Blk.drew)); done)); (focus ((repeat constructor); done))) | (apply Lst_loadA; (focus rfl); (focus rfl); (focus rfl); (focus rfl); (focus rfl); (focus ((repeat (first | assumption | (apply Blk.below (hb := hb1); rotate_left; (focus ((try simp only [Sx.sizes]); omega)); rotate_right) | (apply Blk.below (hb := hb2); rotate_left; (focus ((try simp only [Sx.sizes]); omega)); rotate_right) | (apply Blk.below (hb := hb3); rotate_left; (focus ((try simp only [Sx.sizes]); omega)); rotate_right) | (apply Blk.below (hb := hb4); rotate_left; (focus ((try simp only [Sx.sizes]); omega)); rotate_right) | (apply Blk.below (hb := hb5); rotate_left; (focus ((try simp only [Sx.sizes]); omega)); rotate_right) | (apply Blk.below (hb := hb6); rotate_left; (focus ((try simp only [Sx.sizes]); omega)); rotate_right) | (apply Blk.below (hb := hb7); rotate_left; (focus ((try simp only [Sx.sizes]); omega)); rotate_right) | (apply Blk.below (hb := hb8); rotate_left; (focus ((try simp only [Sx.sizes]); omega)); rotate_right) | (apply Blk.below (hb := hb9); rotate_left; (focus ((try simp only [Sx.sizes]); omega)); rotate_right) | exact Blk.newE (by first | rfl | ((try simp only [Sx.sizes]); first | done | omega)) _ _ | exact Blk.put_same (by (try simp only [Sx.sizes]); first | done | omega) _ _ | (apply Blk.put_ne; (focus omega)) | apply Blk.alloc | apply Blk.drew)); done)); (focus (repeat constructor)); (focus rfl)) | (apply Lst_storeA; (focus rfl); (focus rfl); (focus rfl); (focus rfl); (focus (simp [Value.oneCell'])); (focus ((repeat (first | assumption | (apply Blk.below (hb := hb1); rotate_left; (focus ((try simp only [Sx.sizes]); omega)); rotate_right) | (apply Blk.below (hb := hb2); rotate_left; (focus ((try simp only [Sx.sizes]); omega)); rotate_right) | (apply Blk.below (hb := hb3); rotate_left; (focus ((try simp only [Sx.sizes]); omega)); rotate_right) | (apply Blk.below (hb := hb4); rotate_left; (focus ((try simp only [Sx.sizes]); omega)); rotate_right) | (apply Blk.below (hb := hb5); rotate_left; (focus ((try simp only [Sx.sizes]); omega)); rotate_right) | (apply Blk.below (hb := hb6); rotate_left; (focus ((try simp only [Sx.sizes]); omega)); rotate_right) | (apply Blk.below (hb := hb7); rotate_left; (focus ((try simp only [Sx.sizes]); omega)); rotate_right) | (apply Blk.below (hb := hb8); rotate_left; (focus ((try simp only [Sx.sizes]); omega)); rotate_right) | (apply Blk.below (hb := hb9); rotate_left; (focus ((try simp only [Sx.sizes]); omega)); rotate_right) | exact Blk.newE (by first | rfl | ((try simp only [Sx.sizes]); first | done | omega)) _ _ | exact Blk.put_same (by (try simp only [Sx.sizes]); first | done | omega) _ _ | (apply Blk.put_ne; (focus omega)) | apply Blk.alloc | apply Blk.drew)); done)); (focus (repeat constructor))) | (apply Lst_pu; (focus (first | (apply P_move; (focus constructor)) | (apply P_assign; (focus constructor)) | (apply P_ar; (focus rfl); (focus rfl); (focus rfl); (focus (first | assumption | exact wi64 (by omega) (by omega) | exact wu64 (by omega) (by omega) | exact wi32 (by omega) (by omega) | exact wu8 (by omega) (by omega) | rfl))) | (apply P_ct; (focus rfl); (focus rfl); (focus rfl); (focus (dsimp only [cmpP]; first | done | omega))) | (apply P_cf; (focus rfl); (focus rfl); (focus rfl); (focus (dsimp only [cmpP]; first | done | omega))) | (apply P_pick_t; (focus rfl); (focus constructor)) | (apply P_pick_f; (focus rfl); (focus constructor)) | (apply P_extract; (focus rfl); (focus rfl)) | (apply P_not; (focus rfl); (focus rfl)) | (apply P_slen; (focus rfl); (focus rfl)) | (apply P_llen; (focus rfl); (focus rfl)) | (apply P_bne; (focus rfl); (focus rfl); (focus rfl); (focus (first | exact bne_self_eq_false _ | rfl))) | (apply P_max; (focus rfl); (focus rfl)) | (apply P_idx1; (focus rfl); (focus rfl); (focus rfl); (focus rfl); (focus rfl); (focus omega)) | (apply P_nilCheck; (focus rfl)) | (apply P_conv; (focus rfl); (focus rfl); (focus rfl); (focus (first | assumption | exact wi64 (by omega) (by omega) | exact wu64 (by omega) (by omega) | exact wi32 (by omega) (by omega) | exact wu8 (by omega) (by omega) | rfl))) | (apply P_sindex0; (focus rfl); (focus rfl); (focus rfl); (focus omega)) | (apply P_sindexN; (focus rfl); (focus rfl); (focus rfl); (focus omega)) | (apply P_sindex; (focus rfl); (focus rfl); (focus rfl); (focus omega); (focus omega)) | (apply P_makeFunc; (focus (repeat constructor)); (focus (repeat constructor))) | (apply P_seq_t; (focus rfl); (focus rfl); (focus (first | assumption | rfl))) | (apply P_seq_f; (focus rfl); (focus rfl); (focus assumption)) | (apply P_sne_t; (focus rfl); (focus rfl); (focus assumption)) | (apply P_sne_f; (focus rfl); (focus rfl); (focus (first | assumption | rfl))) | (apply P_faddr; (focus rfl); (focus rfl); (focus rfl); (focus rfl); (focus rfl); (focus rfl); (focus (first | (simp only [Nat.zero_add, Nat.add_zero, List.getElem_toArray, List.getElem_cons_zero, List.getElem_cons_succ]; rfl) | rfl))) | (apply P_fieldA; (focus rfl); (focus rfl); (focus rfl); (focus rfl); (focus rfl); (focus rfl); (focus rfl); (focus rfl); (focus (repeat constructor))) | (apply P_build; (focus rfl); (focus rfl); (focus rfl); (focus rfl); (focus rfl); (focus (repeat (first | apply FillO.nil | (apply FillO.cons; (focus constructor); (focus rfl); (focus rfl); (focus (repeat constructor))))))) | (apply P_eqA; (focus rfl); (focus rfl); (focus (kernel_rfl)); (focus (first | (apply Eqv_int_t; (focus rfl); (focus (first | rfl | omega))) | (apply Eqv_int_f; (focus rfl); (focus omega)) | (apply Eqv_str_t; (focus rfl); (focus (first | rfl | assumption))) | (apply Eqv_str_f; (focus rfl); (focus assumption)) | (apply Eqv_bool; (focus rfl); (focus (first | exact beq_self_eq_true _ | rfl))) | (apply Eqv_struct; (focus rfl); (focus (first | rfl | kernel_rfl)); (repeat (first | exact EqvF_nil | (apply EqvF_t; (focus rfl); (focus (first | (apply PartR_1; (focus rfl); (focus rfl); (focus rfl)) | (apply PartR_A; (focus rfl); (focus rfl); (focus rfl); (focus rfl); (focus (repeat constructor))))); (focus (first | (apply PartR_1; (focus rfl); (focus rfl); (focus rfl)) | (apply PartR_A; (focus rfl); (focus rfl); (focus rfl); (focus rfl); (focus (repeat constructor))))); (focus (first | (apply Eqv_int_t; (focus rfl); (focus (first | rfl | omega))) | (apply Eqv_int_f; (focus rfl); (focus omega)) | (apply Eqv_str_t; (focus rfl); (focus (first | rfl | assumption))) | (apply Eqv_str_f; (focus rfl); (focus assumption)) | (apply Eqv_bool; (focus rfl); (focus (first | exact beq_self_eq_true _ | rfl))) | (apply Eqv_struct; (focus rfl); (focus (first | rfl | kernel_rfl)); (repeat (first | exact EqvF_nil | (apply EqvF_t; (focus rfl); (focus (first | (apply PartR_1; (focus rfl); (focus rfl); (focus rfl)) | (apply PartR_A; (focus rfl); (focus rfl); (focus rfl); (focus rfl); (focus (repeat constructor))))); (focus (first | (apply PartR_1; (focus rfl); (focus rfl); (focus rfl)) | (apply PartR_A; (focus rfl); (focus rfl); (focus rfl); (focus rfl); (focus (repeat constructor))))); (focus (first | (apply Eqv_int_t; (focus rfl); (focus (first | rfl | omega))) | (apply Eqv_int_f; (focus rfl); (focus omega)) | (apply Eqv_str_t; (focus rfl); (focus (first | rfl | assumption))) | (apply Eqv_str_f; (focus rfl); (focus assumption)) | (apply Eqv_bool; (focus rfl); (focus (first | exact beq_self_eq_true _ | rfl)))))) | (apply EqvF_f; (focus rfl); (focus (first | (apply PartR_1; (focus rfl); (focus rfl); (focus rfl)) | (apply PartR_A; (focus rfl); (focus rfl); (focus rfl); (focus rfl); (focus (repeat constructor))))); (focus (first | (apply PartR_1; (focus rfl); (focus rfl); (focus rfl)) | (apply PartR_A; (focus rfl); (focus rfl); (focus rfl); (focus rfl); (focus (repeat constructor))))); (focus (first | (apply Eqv_int_t; (focus rfl); (focus (first | rfl | omega))) | (apply Eqv_int_f; (focus rfl); (focus omega)) | (apply Eqv_str_t; (focus rfl); (focus (first | rfl | assumption))) | (apply Eqv_str_f; (focus rfl); (focus assumption)) | (apply Eqv_bool; (focus rfl); (focus (first | exact beq_self_eq_true _ | rfl)))))))))))) | (apply EqvF_f; (focus rfl); (focus (first | (apply PartR_1; (focus rfl); (focus rfl); (focus rfl)) | (apply PartR_A; (focus rfl); (focus rfl); (focus rfl); (focus rfl); (focus (repeat constructor))))); (focus (first | (apply PartR_1; (focus rfl); (focus rfl); (focus rfl)) | (apply PartR_A; (focus rfl); (focus rfl); (focus rfl); (focus rfl); (focus (repeat constructor))))); (focus (first | (apply Eqv_int_t; (focus rfl); (focus (first | rfl | omega))) | (apply Eqv_int_f; (focus rfl); (focus omega)) | (apply Eqv_str_t; (focus rfl); (focus (first | rfl | assumption))) | (apply Eqv_str_f; (focus rfl); (focus assumption)) | (apply Eqv_bool; (focus rfl); (focus (first | exact beq_self_eq_true _ | rfl))) | (apply Eqv_struct; (focus rfl); (focus (first | rfl | kernel_rfl)); (repeat (first | exact EqvF_nil | (apply EqvF_t; (focus rfl); (focus (first | (apply PartR_1; (focus rfl); (focus rfl); (focus rfl)) | (apply PartR_A; (focus rfl); (focus rfl); (focus rfl); (focus rfl); (focus (repeat constructor))))); (focus (first | (apply PartR_1; (focus rfl); (focus rfl); (focus rfl)) | (apply PartR_A; (focus rfl); (focus rfl); (focus rfl); (focus rfl); (focus (repeat constructor))))); (focus (first | (apply Eqv_int_t; (focus rfl); (focus (first | rfl | omega))) | (apply Eqv_int_f; (focus rfl); (focus omega)) | (apply Eqv_str_t; (focus rfl); (focus (first | rfl | assumption))) | (apply Eqv_str_f; (focus rfl); (focus assumption)) | (apply Eqv_bool; (focus rfl); (focus (first | exact beq_self_eq_true _ | rfl)))))) | (apply EqvF_f; (focus rfl); (focus (first | (apply PartR_1; (focus rfl); (focus rfl); (focus rfl)) | (apply PartR_A; (focus rfl); (focus rfl); (focus rfl); (focus rfl); (focus (repeat constructor))))); (focus (first | (apply PartR_1; (focus rfl); (focus rfl); (focus rfl)) | (apply PartR_A; (focus rfl); (focus rfl); (focus rfl); (focus rfl); (focus (repeat constructor))))); (focus (first | (apply Eqv_int_t; (focus rfl); (focus (first | rfl | omega))) | (apply Eqv_int_f; (focus rfl); (focus omega)) | (apply Eqv_str_t; (focus rfl); (focus (first | rfl | assumption))) | (apply Eqv_str_f; (focus rfl); (focus assumption)) | (apply Eqv_bool; (focus rfl); (focus (first | exact beq_self_eq_true _ | rfl))))))))))))))))); (focus rfl)) | (apply P_neA; (focus rfl); (focus rfl); (focus (kernel_rfl)); (focus (first | (apply Eqv_int_t; (focus rfl); (focus (first | rfl | omega))) | (apply Eqv_int_f; (focus rfl); (focus omega)) | (apply Eqv_str_t; (focus rfl); (focus (first | rfl | assumption))) | (apply Eqv_str_f; (focus rfl); (focus assumption)) | (apply Eqv_bool; (focus rfl); (focus (first | exact beq_self_eq_true _ | rfl))) | (apply Eqv_struct; (focus rfl); (focus (first | rfl | kernel_rfl)); (repeat (first | exact EqvF_nil | (apply EqvF_t; (focus rfl); (focus (first | (apply PartR_1; (focus rfl); (focus rfl); (focus rfl)) | (apply PartR_A; (focus rfl); (focus rfl); (focus rfl); (focus rfl); (focus (repeat constructor))))); (focus (first | (apply PartR_1; (focus rfl); (focus rfl); (focus rfl)) | (apply PartR_A; (focus rfl); (focus rfl); (focus rfl); (focus rfl); (focus (repeat constructor))))); (focus (first | (apply Eqv_int_t; (focus rfl); (focus (first | rfl | omega))) | (apply Eqv_int_f; (focus rfl); (focus omega)) | (apply Eqv_str_t; (focus rfl); (focus (first | rfl | assumption))) | (apply Eqv_str_f; (focus rfl); (focus assumption)) | (apply Eqv_bool; (focus rfl); (focus (first | exact beq_self_eq_true _ | rfl))) | (apply Eqv_struct; (focus rfl); (focus (first | rfl | kernel_rfl)); (repeat (first | exact EqvF_nil | (apply EqvF_t; (focus rfl); (focus (first | (apply PartR_1; (focus rfl); (focus rfl); (focus rfl)) | (apply PartR_A; (focus rfl); (focus rfl); (focus rfl); (focus rfl); (focus (repeat constructor))))); (focus (first | (apply PartR_1; (focus rfl); (focus rfl); (focus rfl)) | (apply PartR_A; (focus rfl); (focus rfl); (focus rfl); (focus rfl); (focus (repeat constructor))))); (focus (first | (apply Eqv_int_t; (focus rfl); (focus (first | rfl | omega))) | (apply Eqv_int_f; (focus rfl); (focus omega)) | (apply Eqv_str_t; (focus rfl); (focus (first | rfl | assumption))) | (apply Eqv_str_f; (focus rfl); (focus assumption)) | (apply Eqv_bool; (focus rfl); (focus (first | exact beq_self_eq_true _ | rfl)))))) | (apply EqvF_f; (focus rfl); (focus (first | (apply PartR_1; (focus rfl); (focus rfl); (focus rfl)) | (apply PartR_A; (focus rfl); (focus rfl); (focus rfl); (focus rfl); (focus (repeat constructor))))); (focus (first | (apply PartR_1; (focus rfl); (focus rfl); (focus rfl)) | (apply PartR_A; (focus rfl); (focus rfl); (focus rfl); (focus rfl); (focus (repeat constructor))))); (focus (first | (apply Eqv_int_t; (focus rfl); (focus (first | rfl | omega))) | (apply Eqv_int_f; (focus rfl); (focus omega)) | (apply Eqv_str_t; (focus rfl); (focus (first | rfl | assumption))) | (apply Eqv_str_f; (focus rfl); (focus assumption)) | (apply Eqv_bool; (focus rfl); (focus (first | exact beq_self_eq_true _ | rfl)))))))))))) | (apply EqvF_f; (focus rfl); (focus (first | (apply PartR_1; (focus rfl); (focus rfl); (focus rfl)) | (apply PartR_A; (focus rfl); (focus rfl); (focus rfl); (focus rfl); (focus (repeat constructor))))); (focus (first | (apply PartR_1; (focus rfl); (focus rfl); (focus rfl)) | (apply PartR_A; (focus rfl); (focus rfl); (focus rfl); (focus rfl); (focus (repeat constructor))))); (focus (first | (apply Eqv_int_t; (focus rfl); (focus (first | rfl | omega))) | (apply Eqv_int_f; (focus rfl); (focus omega)) | (apply Eqv_str_t; (focus rfl); (focus (first | rfl | assumption))) | (apply Eqv_str_f; (focus rfl); (focus assumption)) | (apply Eqv_bool; (focus rfl); (focus (first | exact beq_self_eq_true _ | rfl))) | (apply Eqv_struct; (focus rfl); (focus (first | rfl | kernel_rfl)); (repeat (first | exact EqvF_nil | (apply EqvF_t; (focus rfl); (focus (first | (apply PartR_1; (focus rfl); (focus rfl); (focus rfl)) | (apply PartR_A; (focus rfl); (focus rfl); (focus rfl); (focus rfl); (focus (repeat constructor))))); (focus (first | (apply PartR_1; (focus rfl); (focus rfl); (focus rfl)) | (apply PartR_A; (focus rfl); (focus rfl); (focus rfl); (focus rfl); (focus (repeat constructor))))); (focus (first | (apply Eqv_int_t; (focus rfl); (focus (first | rfl | omega))) | (apply Eqv_int_f; (focus rfl); (focus omega)) | (apply Eqv_str_t; (focus rfl); (focus (first | rfl | assumption))) | (apply Eqv_str_f; (focus rfl); (focus assumption)) | (apply Eqv_bool; (focus rfl); (focus (first | exact beq_self_eq_true _ | rfl)))))) | (apply EqvF_f; (focus rfl); (focus (first | (apply PartR_1; (focus rfl); (focus rfl); (focus rfl)) | (apply PartR_A; (focus rfl); (focus rfl); (focus rfl); (focus rfl); (focus (repeat constructor))))); (focus (first | (apply PartR_1; (focus rfl); (focus rfl); (focus rfl)) | (apply PartR_A; (focus rfl); (focus rfl); (focus rfl); (focus rfl); (focus (repeat constructor))))); (focus (first | (apply Eqv_int_t; (focus rfl); (focus (first | rfl | omega))) | (apply Eqv_int_f; (focus rfl); (focus omega)) | (apply Eqv_str_t; (focus rfl); (focus (first | rfl | assumption))) | (apply Eqv_str_f; (focus rfl); (focus assumption)) | (apply Eqv_bool; (focus rfl); (focus (first | exact beq_self_eq_true _ | rfl))))))))))))))))); (focus rfl)) | (apply P_scmp; (focus rfl); (focus rfl); (focus rfl); (focus assumption); (focus rfl)) | (apply P_fcmp; (focus rfl); (focus rfl); (focus rfl); (focus assumption); (focus rfl)) | (apply P_bits; (focus rfl); (focus rfl); (focus rfl); (focus rfl); (focus (kernel_rfl)); (focus (kernel_rfl)); (focus (kernel_rfl))) | (apply P_frombits; (focus rfl); (focus rfl); (focus rfl); (focus rfl); (focus (kernel_rfl)); (focus (kernel_rfl)); (focus (kernel_rfl))))); (focus rfl)) | (apply Lst_cs; (focus rfl); (focus rfl); (focus rfl); (focus rfl); all_goals (intro hc; dsimp only [cmpP] at hc))))
  · (apply retQ1; (focus rfl))
    exact ⟨by rw [decide_eq_true (by assumption)]; rfl, b1⟩
  · (apply retQ1; (focus rfl))
    exact ⟨by rw [decide_eq_false (by assumption)]; rfl, b1⟩
/-- A value, its NaN the one. -/
def cleanV (x : Vl) : Vl := { x with f := nbits x.f }
theorem c_Clean (x : Vl) (w : World) : Does Tryz.prog 63 #[x.v] w fun v w' => v = (cleanV x).v ∧ Below w.heap.size w w' := by
  obtain ⟨k, n, f, s⟩ := x
  refine Does_of (args := [.agg #[.int .i64 k, .int .i64 n, .float .f64 f, .string s]]) Tryz.func63 (by kernel_rfl) rfl rfl rfl rfl rfl ?_
  unfold cleanV nbits
  (refine Gf ?_)
  (apply Lst_call; (focus rfl); (focus rfl))
  refine (c_isNaN f _).mono ?_
  rintro v w' ⟨rfl, rfl⟩
  cases h : isNaN f
  · (refine Gf ?_)
    (refine Reta ?_)
    exact ⟨rfl, Bel⟩
  · (refine Gf ?_)
    (refine Reta ?_)
    exact ⟨rfl, Bel⟩
end Val
namespace Val
open Go Go.RowKit Sx Fl
theorem and_top (f : Nat) (h1 : 9223372036854775808 ≤ f) (h2 : f < 18446744073709551616) : bits .and .i64 ((f : Int) - 18446744073709551616) 9223372036854775807 = (rung f : Int) := by
  have e1 : (BitVec.ofInt 64 ((f : Int) - 18446744073709551616)).toNat = f := by
    rw [BitVec.toNat_ofInt]; omega
  have e2 : (BitVec.ofInt 64 9223372036854775807).toNat = 2 ^ 63 - 1 := by decide
  show IntKind.i64.wrap ((BitVec.ofInt 64 ((f : Int) - 18446744073709551616) &&& BitVec.ofInt 64 9223372036854775807).toNat : Int) = _
  rw [BitVec.toNat_and, e1, e2, Nat.and_two_pow_sub_one_eq_mod]
  unfold rung
  have : f % 2 ^ 63 < 9223372036854775808 := Nat.mod_lt _ (by omega)
  rw [show (2 : Nat) ^ 63 = 9223372036854775808 by rfl]
  simp [IntKind.wrap, IntKind.signed, IntKind.bits]
  omega
attribute [local irreducible] W Lst Qst Pu seqQ blkQ rndQ cutQ retQ Does Enters IntKind.wrap bits sb World.alloc World.putObj Blk
theorem r_ints (a b : Int) (w : World) : Does Tryz.prog 65 #[.int .i64 a, .int .i64 b] w fun v w' => v = .int .i64 (cmpI a b) ∧ w = w' := by
  refine Does_of (args := [.int .i64 a, .int .i64 b]) Tryz.func65 (by kernel_rfl) rfl rfl rfl rfl rfl ?_
  unfold cmpI
  by_cases h1 : a < b
  · rw [if_pos h1]
    (refine Ga ?_)
    (apply retQ1; (focus rfl))
    exact ⟨rfl, rfl⟩
  · rw [if_neg h1]
    by_cases h2 : b < a
    · rw [if_pos h2]
      (refine Ga ?_)
      (apply retQ1; (focus rfl))
      exact ⟨rfl, rfl⟩
    · rw [if_neg h2]
      (refine Ga ?_)
      (apply retQ1; (focus rfl))
      exact ⟨rfl, rfl⟩
theorem r_order (f : Nat) (hf : f < 18446744073709551616) (w : World) : Does Tryz.prog 66 #[.float .f64 f] w fun v w' => v = .int .i64 (K f) ∧ w = w' := by
  refine Does_of (args := [.float .f64 f]) Tryz.func66 (by kernel_rfl) rfl rfl rfl rfl rfl ?_
  unfold K
  cases h : isNaN f
  · have ho := ord_self h
    rw [if_neg (by simp)]
    by_cases hs : f < 9223372036854775808
    · have hw : IntKind.i64.wrap (f : Int) = (f : Int) := wi64 (by omega) (by omega)
      have e : sgn f = false := by unfold sgn; rw [show f / 9223372036854775808 = 0 by omega]; rfl
      have e2 : rung f = f := by unfold rung; omega
      rw [e, e2, if_neg (by simp)]
      (refine Gf ?_)
      (apply retQ1; (focus rfl))
      exact ⟨rfl, rfl⟩
    · have hw := wrap_big f (by omega) hf
      have e : sgn f = true := by unfold sgn; rw [show f / 9223372036854775808 = 1 by omega]; rfl
      rw [e, if_pos rfl]
      have ha := and_top f (by omega) hf
      have hr : rung f < 9223372036854775808 := Nat.mod_lt _ (by omega)
      have hw2 : IntKind.i64.wrap (-1 - (rung f : Int)) = -1 - (rung f : Int) := wi64 (by omega) (by omega)
      (refine Gf ?_)
      apply Lst_pu
      · apply P_and
        focus rfl
        focus rfl
        exact ha
      focus rfl
      (refine Gf ?_)
      (apply retQ1; (focus rfl))
      exact ⟨rfl, rfl⟩
  · have ho := ord_self_nan h
    (refine Gf ?_)
    (apply retQ1; (focus rfl))
    exact ⟨rfl, rfl⟩
theorem cmpS_cases (s t : ByteArray) : cmpS s t = -1 ∨ cmpS s t = 0 ∨ cmpS s t = 1 := by
  unfold cmpS
  generalize s.data.toList = a
  generalize t.data.toList = b
  induction a generalizing b with
  | nil => cases b <;> simp [Lib.compareBytes]
  | cons x a ih =>
    cases b with
    | nil => simp [Lib.compareBytes]
    | cons y b =>
      unfold Lib.compareBytes
      split
      · simp
      · split
        · simp
        · exact ih b
theorem r_Cmp (x y : Vl) (hx : x.Fit) (hy : y.Fit) (w : World) : Does Tryz.prog 34 #[x.v, y.v] w fun v w' => v = .int .i64 (cmpV x y) ∧ Below w.heap.size w w' := by
  obtain ⟨k, n, f, s⟩ := x
  obtain ⟨k', n', f', s'⟩ := y
  refine Does_of (args := [.agg #[.int .i64 k, .int .i64 n, .float .f64 f, .string s], .agg #[.int .i64 k', .int .i64 n', .float .f64 f', .string s']]) Tryz.func34 (by kernel_rfl) rfl rfl rfl rfl rfl ?_
  unfold cmpV
  have h1 := hx.f1
  have h2 := hy.f1
  dsimp only at h1 h2 ⊢
  clear hx hy
  have c1 := r_ints k k'
  have c2 := r_ints n n'
  have c3 := r_ints (K f) (K f')
  have o1 := r_order f h1
  have o2 := r_order f' h2
  generalize cmpI k k' = a at c1 ⊢
  generalize cmpI n n' = b at c2 ⊢
  generalize cmpI (K f) (K f') = c at c3 ⊢
  (refine Gf ?_)
  (apply Lst_call; (focus rfl); (focus rfl))
  refine (c1 _).mono ?_
  rintro v w' ⟨rfl, rfl⟩
  by_cases ha : a = 0
  · subst ha
    (refine Gf ?_)
    (apply Lst_call; (focus rfl); (focus rfl))
    refine (c2 _).mono ?_
    rintro v w' ⟨rfl, rfl⟩
    by_cases hb : b = 0
    · subst hb
      (refine Gf ?_)
      refine W_draw 5 (fun A' => A' = World.drew _) rfl (by kernel_rfl) rfl ?_
      (refine Qf ?_)
      apply Qst_call (.int .i64 (K f))
      focus rfl
      focus rfl
      · rintro _ rfl
        exact (o1 _).mono fun v w' h => ⟨h.1, h.2.symm⟩
      (refine Qf ?_)
      rintro _ rfl
      (refine Gf ?_)
      (apply Lst_call; (focus rfl); (focus rfl))
      refine (o2 _).mono ?_
      rintro v w' ⟨rfl, rfl⟩
      (refine Gf ?_)
      (apply Lst_call; (focus rfl); (focus rfl))
      refine (c3 _).mono ?_
      rintro v w' ⟨rfl, rfl⟩
      by_cases hc : c = 0
      · subst hc
        rcases cmpS_cases s s' with hs | hs | hs
        · (refine Gf ?_)
          (apply retQ1; (focus rfl))
          exact ⟨by rw [hs]; rfl, Bel⟩
        · (refine Gf ?_)
          (apply retQ1; (focus rfl))
          exact ⟨by rw [hs]; rfl, Bel⟩
        · (refine Gf ?_)
          (apply retQ1; (focus rfl))
          exact ⟨by rw [hs]; rfl, Bel⟩
      · (refine Gf ?_)
        (apply retQ1; (focus rfl))
        refine ⟨?_, Bel⟩
        show Value.int .i64 c = _
        simp [orL, hc]
    · (refine Gf ?_)
      (apply retQ1; (focus rfl))
      refine ⟨?_, Bel⟩
      show Value.int .i64 b = _
      simp [orL, hb]
  · (refine Gf ?_)
    (apply retQ1; (focus rfl))
    refine ⟨?_, Bel⟩
    show Value.int .i64 a = _
    simp [orL, ha]
end Val
namespace Sq
abbrev Id := Nat × Nat
/-- A unit: its id, its origins. -/
structure Un where
  id : Id
  l : Id
  r : Id
deriving DecidableEq
instance : Inhabited Un := ⟨⟨(0, 0), (0, 0), (0, 0)⟩⟩
/-- A forest: the first one's unit, its left and right forests, its siblings behind it. -/
inductive Fo where
  | nil : Fo
  | nd (u : Un) (l r s : Fo) : Fo
namespace Fo
def flat : Fo → List Un
  | nil => []
  | nd u l r s => flat l ++ u :: flat r ++ flat s
def tops : Fo → List Un
  | nil => []
  | nd u _ _ s => u :: tops s
def sz (t : Fo) : Nat := t.flat.length
/-- How many units stand at and below each of the first ones. -/
def szs : Fo → List Nat
  | nil => []
  | nd _ l r s => (sz l + 1 + sz r) :: szs s
/-- A unit's two forests turned. -/
def mod (k : Id) (f g : Fo → Fo) : Fo → Fo
  | nil => nil
  | nd u l r s => if u.id = k then nd u (f l) (g r) s else nd u (mod k f g l) (mod k f g r) (mod k f g s)
/-- Behind the first ones that pass. -/
def insBy (p : Un → Bool) (x : Un) : Fo → Fo
  | nil => nd x nil nil nil
  | nd u l r s => if p u then nd u l r (insBy p x s) else nd x nil nil (nd u l r s)
/-- The first n trees of a forest; the rest. -/
def fst : Nat → Fo → Fo
  | 0, _ => nil
  | _ + 1, nil => nil
  | n + 1, nd u l r s => nd u l r (fst n s)
def rst : Nat → Fo → Fo
  | 0, t => t
  | _ + 1, nil => nil
  | n + 1, nd _ _ _ s => rst n s
def pass (p : Un → Bool) (t : Fo) : Nat := (t.tops.takeWhile p).length
theorem pass_le (p : Un → Bool) (t : Fo) : pass p t ≤ t.tops.length := (List.takeWhile_prefix _).length_le
theorem fst_rst : ∀ (n : Nat) (t : Fo), (fst n t).flat ++ (rst n t).flat = t.flat
  | 0, _ => rfl
  | _ + 1, nil => rfl
  | n + 1, nd u l r s => by
    show (flat l ++ u :: flat r ++ flat (fst n s)) ++ flat (rst n s) = flat l ++ u :: flat r ++ flat s
    rw [← fst_rst n s]
    simp
theorem fst_sz : ∀ (n : Nat) (t : Fo), ((fst n t).flat).length = (t.szs.take n).sum
  | 0, _ => rfl
  | _ + 1, nil => rfl
  | n + 1, nd u l r s => by
    show (flat l ++ u :: flat r ++ flat (fst n s)).length = (((sz l + 1 + sz r) :: szs s).take (n + 1)).sum
    rw [List.take_succ_cons, List.sum_cons, ← fst_sz n s]
    simp [sz]
    omega
theorem szs_sum : ∀ t : Fo, t.szs.sum = t.sz
  | nil => rfl
  | nd u l r s => by
    show ((sz l + 1 + sz r) :: szs s).sum = (flat l ++ u :: flat r ++ flat s).length
    rw [List.sum_cons, szs_sum s]
    simp [sz]
    omega
theorem ins_flat (p : Un → Bool) (x : Un) : ∀ t : Fo, (insBy p x t).flat = (fst (pass p t) t).flat ++ x :: (rst (pass p t) t).flat
  | nil => rfl
  | nd u l r s => by
    unfold insBy pass
    cases h : p u
    · have e : (tops (nd u l r s)).takeWhile p = [] := by
        show (u :: tops s).takeWhile p = []
        rw [List.takeWhile_cons, h]
        rfl
      rw [e]
      rfl
    · have e : (tops (nd u l r s)).takeWhile p = u :: (tops s).takeWhile p := by
        show (u :: tops s).takeWhile p = _
        rw [List.takeWhile_cons, h]
        rfl
      rw [e]
      show flat l ++ u :: flat r ++ flat (insBy p x s) = (flat l ++ u :: flat r ++ flat (fst (pass p s) s)) ++ x :: flat (rst (pass p s) s)
      rw [ins_flat p x s]
      simp
theorem ins_tops (p : Un → Bool) (x : Un) : ∀ t : Fo, (insBy p x t).tops = t.tops.take (pass p t) ++ x :: t.tops.drop (pass p t)
  | nil => rfl
  | nd u l r s => by
    unfold insBy pass
    cases h : p u
    · have e : (tops (nd u l r s)).takeWhile p = [] := by
        show (u :: tops s).takeWhile p = []
        rw [List.takeWhile_cons, h]
        rfl
      rw [e]
      rfl
    · have e : (tops (nd u l r s)).takeWhile p = u :: (tops s).takeWhile p := by
        show (u :: tops s).takeWhile p = _
        rw [List.takeWhile_cons, h]
        rfl
      rw [e]
      show u :: tops (insBy p x s) = (u :: tops s).take ((tops s).takeWhile p).length.succ ++ x :: (u :: tops s).drop ((tops s).takeWhile p).length.succ
      rw [ins_tops p x s]
      rfl
/-! ### Where units stand -/
def ids (t : Fo) : List Id := t.flat.map (·.id)
theorem mod_none {k : Id} {f g : Fo → Fo} : ∀ {t : Fo}, k ∉ t.ids → mod k f g t = t
  | nil, _ => rfl
  | nd u l r s, h => by
    simp only [ids, flat, List.map_append, List.map_cons, List.mem_append, List.mem_cons, not_or] at h
    obtain ⟨⟨h1, h2, h3⟩, h4⟩ := h
    unfold mod
    rw [if_neg (fun e => h2 e.symm), mod_none h1, mod_none h3, mod_none h4]
theorem nodup_nd {u : Un} {l r s : Fo} (h : (nd u l r s).ids.Nodup) : l.ids.Nodup ∧ r.ids.Nodup ∧ s.ids.Nodup ∧ u.id ∉ l.ids ∧ u.id ∉ r.ids ∧ u.id ∉ s.ids ∧ (∀ k ∈ l.ids, k ∉ r.ids ∧ k ∉ s.ids) ∧ ∀ k ∈ r.ids, k ∉ s.ids := by
  simp only [ids, flat, List.map_append, List.map_cons] at h ⊢
  rw [List.nodup_append] at h
  obtain ⟨h1, h2, h3⟩ := h
  rw [List.nodup_append] at h1
  obtain ⟨h4, h5, h6⟩ := h1
  rw [List.nodup_cons] at h5
  refine ⟨h4, h5.2, h2, fun hm => h6 _ hm _ (List.mem_cons_self ..) rfl, h5.1, fun hm => h3 _ (List.mem_append_right _ (List.mem_cons_self ..)) _ hm rfl, fun k hk => ⟨fun hm => h6 _ hk _ (List.mem_cons_of_mem _ hm) rfl, fun hm => h3 _ (List.mem_append_left _ hk) _ hm rfl⟩, fun k hk hm => h3 _ (List.mem_append_right _ (List.mem_cons_of_mem _ hk)) _ hm rfl⟩
theorem mem_nd {u : Un} {l r s : Fo} {k : Id} (h : k ∈ (nd u l r s).ids) (e : u.id ≠ k) : k ∈ l.ids ∨ k ∈ r.ids ∨ k ∈ s.ids := by
  simp only [ids, flat, List.map_append, List.map_cons, List.mem_append, List.mem_cons] at h
  rcases h with (h | h | h) | h
  · exact .inl h
  · exact absurd h.symm e
  · exact .inr (.inl h)
  · exact .inr (.inr h)
theorem ids_nd (u : Un) (l r s : Fo) : (nd u l r s).ids = l.ids ++ u.id :: r.ids ++ s.ids := by simp [ids, flat]
theorem mod_tops (k : Id) (f g : Fo → Fo) : ∀ t : Fo, (mod k f g t).tops = t.tops
  | nil => rfl
  | nd u l r s => by
    unfold mod
    split
    · rfl
    · exact congrArg (u :: ·) (mod_tops k f g s)
/-- The units above one, the nearest first. -/
def upL : Fo → Id → List Id
  | nil, _ => []
  | nd u l r s, k => if u.id = k then [] else if k ∈ l.ids then upL l k ++ [u.id] else if k ∈ r.ids then upL r k ++ [u.id] else upL s k
end Fo
/-- What is told of a unit in memory: its unit, its parent, its children on both sides, how many units are at and below it. -/
structure Rec where
  u : Un
  par : Option Id
  L : List Id
  R : List Id
  n : Nat
namespace Fo
def tips (t : Fo) : List Id := t.tops.map (·.id)
/-- These records tell the forest, below this parent. -/
def Fits (ρ : Id → Rec) : Option Id → Fo → Prop
  | _, nil => True
  | p, nd u l r s => ρ u.id = ⟨u, p, l.tips, r.tips, sz l + 1 + sz r⟩ ∧ Fits ρ (some u.id) l ∧ Fits ρ (some u.id) r ∧ Fits ρ p s
theorem Fits.congr {ρ σ : Id → Rec} : ∀ {t : Fo} {p : Option Id}, Fits ρ p t → (∀ j ∈ t.ids, σ j = ρ j) → Fits σ p t
  | nil, _, _, _ => trivial
  | nd u l r s, p, h, he => by
    have hm : ∀ j, j ∈ l.ids ∨ j = u.id ∨ j ∈ r.ids ∨ j ∈ s.ids → σ j = ρ j := fun j hj => he j (by
      rw [ids_nd]
      simp only [List.mem_append, List.mem_cons]
      rcases hj with h | h | h | h
      · exact .inl (.inl h)
      · exact .inl (.inr (.inl h))
      · exact .inl (.inr (.inr h))
      · exact .inr h)
    exact ⟨(hm _ (.inr (.inl rfl))).trans h.1, Fits.congr h.2.1 fun j hj => hm j (.inl hj), Fits.congr h.2.2.1 fun j hj => hm j (.inr (.inr (.inl hj))), Fits.congr h.2.2.2 fun j hj => hm j (.inr (.inr (.inr hj)))⟩
theorem Fits.szs {ρ : Id → Rec} : ∀ {t : Fo} {p : Option Id}, Fits ρ p t → t.tips.map (fun j => (ρ j).n) = t.szs
  | nil, _, _ => rfl
  | nd u l r s, p, h => by
    show (ρ u.id).n :: s.tips.map (fun j => (ρ j).n) = (sz l + 1 + sz r) :: s.szs
    rw [h.1, Fits.szs h.2.2.2]
theorem Fits.rec_u {ρ : Id → Rec} : ∀ {t : Fo} {p : Option Id}, Fits ρ p t → ∀ u ∈ t.flat, (ρ u.id).u = u
  | nil, _, _, u, hu => by cases hu
  | nd v l r s, p, h, u, hu => by
    have hu' : u ∈ flat l ++ v :: flat r ++ flat s := hu
    simp only [List.mem_append, List.mem_cons] at hu'
    rcases hu' with (hu | hu | hu) | hu
    · exact Fits.rec_u h.2.1 u hu
    · rw [hu, h.1]
    · exact Fits.rec_u h.2.2.1 u hu
    · exact Fits.rec_u h.2.2.2 u hu
/-- Where a unit stands, and what becomes of the order where its forests turn. -/
theorem split : ∀ {t : Fo} {k : Id}, t.ids.Nodup → k ∈ t.ids → ∃ A B u l r, u.id = k ∧ t.flat = A ++ l.flat ++ u :: r.flat ++ B ∧ (∀ f g, (mod k f g t).flat = A ++ (f l).flat ++ u :: (g r).flat ++ B) ∧
    ∀ (ρ : Id → Rec) (p : Option Id), Fits ρ p t → (∃ q, ρ k = ⟨u, q, l.tips, r.tips, sz l + 1 + sz r⟩) ∧ Fits ρ (some k) l ∧ Fits ρ (some k) r
  | nil, k, _, h => by simp [ids, flat] at h
  | nd u l r s, k, hn, h => by
    obtain ⟨nl, nr, ns, ul, ur, us, hlr, hrs⟩ := nodup_nd hn
    by_cases e : u.id = k
    · refine ⟨[], s.flat, u, l, r, e, rfl, fun f g => ?_, fun ρ p hp => ?_⟩
      · unfold mod; rw [if_pos e]; rfl
      · subst e
        exact ⟨⟨p, hp.1⟩, hp.2.1, hp.2.2.1⟩
    · rcases mem_nd h e with h1 | h1 | h1
      · obtain ⟨A, B, x, l1, r1, hx, hf, hM, hF⟩ := split nl h1
        obtain ⟨hr0, hs0⟩ := hlr k h1
        refine ⟨A, B ++ u :: r.flat ++ s.flat, x, l1, r1, hx, ?_, fun f g => ?_, fun ρ p hp => hF ρ _ hp.2.1⟩
        · show flat l ++ u :: flat r ++ flat s = _
          rw [hf]; simp
        · unfold mod
          rw [if_neg e, mod_none hr0, mod_none hs0]
          show flat (mod k f g l) ++ u :: flat r ++ flat s = _
          rw [hM]; simp
      · obtain ⟨A, B, x, l1, r1, hx, hf, hM, hF⟩ := split nr h1
        have hl0 : k ∉ l.ids := fun hm => (hlr k hm).1 h1
        have hs0 := hrs k h1
        refine ⟨l.flat ++ u :: A, B ++ s.flat, x, l1, r1, hx, ?_, fun f g => ?_, fun ρ p hp => hF ρ _ hp.2.2.1⟩
        · show flat l ++ u :: flat r ++ flat s = _
          rw [hf]; simp
        · unfold mod
          rw [if_neg e, mod_none hl0, mod_none hs0]
          show flat l ++ u :: flat (mod k f g r) ++ flat s = _
          rw [hM]; simp
      · obtain ⟨A, B, x, l1, r1, hx, hf, hM, hF⟩ := split ns h1
        have hl0 : k ∉ l.ids := fun hm => (hlr k hm).2 h1
        have hr0 : k ∉ r.ids := fun hm => hrs k hm h1
        refine ⟨l.flat ++ u :: r.flat ++ A, B, x, l1, r1, hx, ?_, fun f g => ?_, fun ρ p hp => hF ρ _ hp.2.2.2⟩
        · show flat l ++ u :: flat r ++ flat s = _
          rw [hf]; simp
        · unfold mod
          rw [if_neg e, mod_none hl0, mod_none hr0]
          show flat l ++ u :: flat r ++ flat (mod k f g s) = _
          rw [hM]; simp
theorem mod_sz {t : Fo} {k : Id} {f g : Fo → Fo} {d : Nat} (hn : t.ids.Nodup) (hk : k ∈ t.ids) (hd : ∀ l r, sz (f l) + sz (g r) = sz l + sz r + d) : sz (mod k f g t) = sz t + d := by
  obtain ⟨A, B, u, l, r, _, hf, hM, _⟩ := split hn hk
  have h1 := hM f g
  have h2 := hd l r
  unfold sz at h2 ⊢
  rw [h1, hf]
  simp only [List.length_append, List.length_cons]
  omega
theorem upL_nd (u : Un) (l r s : Fo) (k : Id) : upL (nd u l r s) k = if u.id = k then [] else if k ∈ l.ids then upL l k ++ [u.id] else if k ∈ r.ids then upL r k ++ [u.id] else upL s k := rfl
theorem mod_tips (k : Id) (f g : Fo → Fo) (t : Fo) : (mod k f g t).tips = t.tips := by unfold tips; rw [mod_tops]
theorem upL_sub : ∀ {t : Fo} {k j : Id}, j ∈ upL t k → j ∈ t.ids
  | nil, _, _, h => by cases h
  | nd u l r s, k, j, h => by
    rw [ids_nd]
    simp only [List.mem_append, List.mem_cons]
    unfold upL at h
    split at h
    · cases h
    · split at h
      · rcases List.mem_append.1 h with h | h
        · exact .inl (.inl (upL_sub h))
        · exact .inl (.inr (.inl (List.mem_singleton.1 h)))
      · split at h
        · rcases List.mem_append.1 h with h | h
          · exact .inl (.inr (.inr (upL_sub h)))
          · exact .inl (.inr (.inl (List.mem_singleton.1 h)))
        · exact .inr (upL_sub h)
/-- How the records turn where a unit's forests turn: it, those above it, the new ones; all others stay. -/
theorem Fits.mod {ρ σ : Id → Rec} {k : Id} {f g : Fo → Fo} {d : Nat} (hd : ∀ l r, sz (f l) + sz (g r) = sz l + sz r + d) : ∀ {t : Fo} {p : Option Id}, t.ids.Nodup → k ∈ t.ids → Fits ρ p t →
    (∀ (l r : Fo) (u : Un) (q : Option Id), ρ k = ⟨u, q, l.tips, r.tips, sz l + 1 + sz r⟩ → (∀ j ∈ l.ids, j ∈ t.ids ∧ j ≠ k ∧ j ∉ upL t k) → (∀ j ∈ r.ids, j ∈ t.ids ∧ j ≠ k ∧ j ∉ upL t k) → Fits ρ (some k) l → Fits ρ (some k) r → σ k = ⟨u, q, (f l).tips, (g r).tips, sz l + 1 + sz r + d⟩ ∧ Fits σ (some k) (f l) ∧ Fits σ (some k) (g r)) →
    (∀ j ∈ t.ids, j ≠ k → σ j = { ρ j with n := (ρ j).n + if j ∈ upL t k then d else 0 }) → Fits σ p (mod k f g t)
  | nil, _, _, h, _, _, _ => by cases h
  | nd u l r s, p, hn, h, hF, hk, ho => by
    obtain ⟨nl, nr, ns, ul, ur, us, hlr, hrs⟩ := nodup_nd hn
    have hin : ∀ j, j ∈ l.ids ∨ j = u.id ∨ j ∈ r.ids ∨ j ∈ s.ids → j ∈ (nd u l r s).ids := fun j hj => by
      rw [ids_nd]
      simp only [List.mem_append, List.mem_cons]
      rcases hj with h | h | h | h
      · exact .inl (.inl h)
      · exact .inl (.inr (.inl h))
      · exact .inl (.inr (.inr h))
      · exact .inr h
    have stay : ∀ (x : Fo) (q : Option Id), Fits ρ q x → (∀ j ∈ x.ids, j ∈ (nd u l r s).ids ∧ j ≠ k ∧ j ∉ upL (nd u l r s) k) → Fits σ q x := fun x q hx hj => hx.congr fun j hjx => by
      obtain ⟨h1, h2, h3⟩ := hj j hjx
      rw [ho j h1 h2, if_neg h3]
      rfl
    by_cases e : u.id = k
    · have hup : upL (nd u l r s) k = [] := by rw [upL_nd, if_pos e]
      have no : ∀ j, j ∉ upL (nd u l r s) k := fun j => by rw [hup]; exact List.not_mem_nil
      subst e
      obtain ⟨h1, h2, h3⟩ := hk l r u p hF.1 (fun j hj => ⟨hin j (.inl hj), fun e => ul (e ▸ hj), no j⟩) (fun j hj => ⟨hin j (.inr (.inr (.inl hj))), fun e => ur (e ▸ hj), no j⟩) hF.2.1 hF.2.2.1
      unfold Fo.mod
      rw [if_pos rfl]
      refine ⟨?_, h2, h3, stay s p hF.2.2.2 fun j hj => ⟨hin j (.inr (.inr (.inr hj))), fun e => us (e ▸ hj), no j⟩⟩
      rw [h1]
      have := hd l r
      exact congrArg (Rec.mk u p (f l).tips (g r).tips) (by omega)
    · unfold Fo.mod
      rw [if_neg e]
      rcases mem_nd h e with h1 | h1 | h1
      · obtain ⟨hr0, hs0⟩ := hlr k h1
        have hup : upL (nd u l r s) k = upL l k ++ [u.id] := by rw [upL_nd, if_neg e, if_pos h1]
        rw [mod_none hr0, mod_none hs0]
        have hsub : ∀ j, j ∈ upL (nd u l r s) k ↔ j ∈ upL l k ∨ j = u.id := fun j => by rw [hup, List.mem_append, List.mem_singleton]
        refine ⟨?_, Fits.mod hd nl h1 hF.2.1 (fun a b v q hv ha hb fa fb => hk a b v q hv (fun j hj => ?_) (fun j hj => ?_) fa fb) (fun j hj hne => ?_), stay r _ hF.2.2.1 fun j hj => ?_, stay s _ hF.2.2.2 fun j hj => ?_⟩
        · rw [ho u.id (hin _ (.inr (.inl rfl))) e, hF.1, if_pos ((hsub _).2 (.inr rfl))]
          rw [mod_tips, mod_sz nl h1 hd]
          exact congrArg (Rec.mk u p l.tips r.tips) (by dsimp only; omega)
        · obtain ⟨x, y, z⟩ := ha j hj
          exact ⟨hin _ (.inl x), y, fun hm => ((hsub j).1 hm).elim z fun e' => ul (e' ▸ x)⟩
        · obtain ⟨x, y, z⟩ := hb j hj
          exact ⟨hin _ (.inl x), y, fun hm => ((hsub j).1 hm).elim z fun e' => ul (e' ▸ x)⟩
        · rw [ho j (hin _ (.inl hj)) hne]
          have : j ∈ upL (nd u l r s) k ↔ j ∈ upL l k := (hsub j).trans ⟨fun h => h.elim id fun e' => absurd hj (e' ▸ ul), .inl⟩
          simp only [this]
        · exact ⟨hin _ (.inr (.inr (.inl hj))), fun e' => hr0 (e' ▸ hj), fun hm => ((hsub j).1 hm).elim (fun hm => (hlr j (upL_sub hm)).1 hj) fun e' => ur (e' ▸ hj)⟩
        · exact ⟨hin _ (.inr (.inr (.inr hj))), fun e' => hs0 (e' ▸ hj), fun hm => ((hsub j).1 hm).elim (fun hm => (hlr j (upL_sub hm)).2 hj) fun e' => us (e' ▸ hj)⟩
      · have hl0 : k ∉ l.ids := fun hm => (hlr k hm).1 h1
        have hs0 := hrs k h1
        have hup : upL (nd u l r s) k = upL r k ++ [u.id] := by rw [upL_nd, if_neg e, if_neg hl0, if_pos h1]
        rw [mod_none hl0, mod_none hs0]
        have hsub : ∀ j, j ∈ upL (nd u l r s) k ↔ j ∈ upL r k ∨ j = u.id := fun j => by rw [hup, List.mem_append, List.mem_singleton]
        refine ⟨?_, stay l _ hF.2.1 fun j hj => ?_, Fits.mod hd nr h1 hF.2.2.1 (fun a b v q hv ha hb fa fb => hk a b v q hv (fun j hj => ?_) (fun j hj => ?_) fa fb) (fun j hj hne => ?_), stay s _ hF.2.2.2 fun j hj => ?_⟩
        · rw [ho u.id (hin _ (.inr (.inl rfl))) e, hF.1, if_pos ((hsub _).2 (.inr rfl))]
          rw [mod_tips, mod_sz nr h1 hd]
          exact congrArg (Rec.mk u p l.tips r.tips) (by dsimp only; omega)
        · exact ⟨hin _ (.inl hj), fun e' => hl0 (e' ▸ hj), fun hm => ((hsub j).1 hm).elim (fun hm => (hlr j hj).1 (upL_sub hm)) fun e' => ul (e' ▸ hj)⟩
        · obtain ⟨x, y, z⟩ := ha j hj
          exact ⟨hin _ (.inr (.inr (.inl x))), y, fun hm => ((hsub j).1 hm).elim z fun e' => ur (e' ▸ x)⟩
        · obtain ⟨x, y, z⟩ := hb j hj
          exact ⟨hin _ (.inr (.inr (.inl x))), y, fun hm => ((hsub j).1 hm).elim z fun e' => ur (e' ▸ x)⟩
        · rw [ho j (hin _ (.inr (.inr (.inl hj)))) hne]
          have : j ∈ upL (nd u l r s) k ↔ j ∈ upL r k := (hsub j).trans ⟨fun h => h.elim id fun e' => absurd hj (e' ▸ ur), .inl⟩
          simp only [this]
        · exact ⟨hin _ (.inr (.inr (.inr hj))), fun e' => hs0 (e' ▸ hj), fun hm => ((hsub j).1 hm).elim (fun hm => hrs j (upL_sub hm) hj) fun e' => us (e' ▸ hj)⟩
      · have hl0 : k ∉ l.ids := fun hm => (hlr k hm).2 h1
        have hr0 : k ∉ r.ids := fun hm => hrs k hm h1
        have hup : upL (nd u l r s) k = upL s k := by rw [upL_nd, if_neg e, if_neg hl0, if_neg hr0]
        rw [mod_none hl0, mod_none hr0]
        refine ⟨?_, stay l _ hF.2.1 fun j hj => ?_, stay r _ hF.2.2.1 fun j hj => ?_, Fits.mod hd ns h1 hF.2.2.2 (fun a b v q hv ha hb fa fb => hk a b v q hv (fun j hj => ?_) (fun j hj => ?_) fa fb) (fun j hj hne => ?_)⟩
        · rw [ho u.id (hin _ (.inr (.inl rfl))) e, hF.1, if_neg (fun hm => us (upL_sub (by rw [hup] at hm; exact hm)))]
          rfl
        · exact ⟨hin _ (.inl hj), fun e' => hl0 (e' ▸ hj), fun hm => (hlr j hj).2 (upL_sub (by rw [hup] at hm; exact hm))⟩
        · exact ⟨hin _ (.inr (.inr (.inl hj))), fun e' => hr0 (e' ▸ hj), fun hm => hrs j hj (upL_sub (by rw [hup] at hm; exact hm))⟩
        · obtain ⟨x, y, z⟩ := ha j hj
          exact ⟨hin _ (.inr (.inr (.inr x))), y, by rw [hup]; exact z⟩
        · obtain ⟨x, y, z⟩ := hb j hj
          exact ⟨hin _ (.inr (.inr (.inr x))), y, by rw [hup]; exact z⟩
        · rw [ho j (hin _ (.inr (.inr (.inr hj)))) hne, hup]
/-! ### Those above a unit -/
theorem Fits.par : ∀ {ρ : Id → Rec} {t : Fo} {p : Option Id} {k : Id}, t.ids.Nodup → k ∈ t.ids → Fits ρ p t → (ρ k).par = (upL t k).head?.or p
  | _, nil, _, _, _, h, _ => by cases h
  | ρ, nd u l r s, p, k, hn, h, hF => by
    obtain ⟨nl, nr, ns, ul, ur, us, hlr, hrs⟩ := nodup_nd hn
    rw [upL_nd]
    by_cases e : u.id = k
    · rw [if_pos e, ← e, hF.1]
      rfl
    · rw [if_neg e]
      rcases mem_nd h e with h1 | h1 | h1
      · rw [if_pos h1, Fits.par nl h1 hF.2.1, List.head?_append]
        cases (upL l k).head? <;> rfl
      · rw [if_neg (fun hm => (hlr k hm).1 h1), if_pos h1, Fits.par nr h1 hF.2.2.1, List.head?_append]
        cases (upL r k).head? <;> rfl
      · rw [if_neg (fun hm => (hlr k hm).2 h1), if_neg (fun hm => hrs k hm h1), Fits.par ns h1 hF.2.2.2]
theorem upL_self : ∀ {t : Fo} {k : Id}, t.ids.Nodup → k ∉ upL t k
  | nil, _, _ => List.not_mem_nil
  | nd u l r s, k, hn => by
    obtain ⟨nl, nr, ns, ul, ur, us, hlr, hrs⟩ := nodup_nd hn
    rw [upL_nd]
    split
    · exact List.not_mem_nil
    · rename_i e
      split
      · intro h
        rcases List.mem_append.1 h with h | h
        · exact upL_self nl h
        · exact e (List.mem_singleton.1 h).symm
      · split
        · intro h
          rcases List.mem_append.1 h with h | h
          · exact upL_self nr h
          · exact e (List.mem_singleton.1 h).symm
        · exact upL_self ns
theorem upL_nodup : ∀ {t : Fo} (k : Id), t.ids.Nodup → (upL t k).Nodup
  | nil, _, _ => List.nodup_nil
  | nd u l r s, k, hn => by
    obtain ⟨nl, nr, ns, ul, ur, us, hlr, hrs⟩ := nodup_nd hn
    rw [upL_nd]
    split
    · exact List.nodup_nil
    · split
      · exact List.nodup_append.2 ⟨upL_nodup k nl, List.pairwise_singleton .., fun a ha b hb e => ul (by rw [← List.mem_singleton.1 hb, ← e]; exact upL_sub ha)⟩
      · split
        · exact List.nodup_append.2 ⟨upL_nodup k nr, List.pairwise_singleton .., fun a ha b hb e => ur (by rw [← List.mem_singleton.1 hb, ← e]; exact upL_sub ha)⟩
        · exact upL_nodup k ns
theorem upL_tail : ∀ {t : Fo} {k j : Id} {c : List Id}, t.ids.Nodup → upL t k = j :: c → upL t j = c
  | nil, _, _, _, _, h => by cases h
  | nd u l r s, k, j, c, hn, h => by
    obtain ⟨nl, nr, ns, ul, ur, us, hlr, hrs⟩ := nodup_nd hn
    rw [upL_nd] at h ⊢
    split at h
    · cases h
    · split at h
      · cases hc : upL l k with
        | nil =>
          rw [hc] at h
          cases h
          rw [if_pos rfl]
        | cons j' c' =>
          rw [hc] at h
          cases h
          have hj : j ∈ l.ids := upL_sub (by rw [hc]; exact List.mem_cons_self ..)
          rw [if_neg (fun e : u.id = j => ul (e ▸ hj)), if_pos hj, upL_tail nl hc]
          rfl
      · split at h
        · cases hc : upL r k with
          | nil =>
            rw [hc] at h
            cases h
            rw [if_pos rfl]
          | cons j' c' =>
            rw [hc] at h
            cases h
            have hj : j ∈ r.ids := upL_sub (by rw [hc]; exact List.mem_cons_self ..)
            rw [if_neg (fun e : u.id = j => ur (e ▸ hj)), if_neg (fun hm => (hlr j hm).1 hj), if_pos hj, upL_tail nr hc]
            rfl
        · have hj : j ∈ s.ids := upL_sub (by rw [h]; exact List.mem_cons_self ..)
          rw [if_neg (fun e : u.id = j => us (e ▸ hj)), if_neg (fun hm => (hlr j hm).2 hj), if_neg (fun hm => hrs j hm hj), upL_tail ns h]
/-! ### What is put where -/
def none' : Id := (0, 0)
def lt (a b : Id) : Bool := decide (a.1 < b.1) || (a.1 == b.1 && decide (a.2 < b.2))
def pos (t : Fo) (k : Id) : Nat := t.ids.idxOf k
/-- How far behind a right child's Right stands. -/
def far (t : Fo) (u : Un) : Nat := if u.r = none' then t.sz else t.pos u.r
/-- Does one right child stand ahead of another one? -/
def ahead (t : Fo) (a b : Un) : Bool := if far t a = far t b then lt a.id b.id else decide (far t b < far t a)
/-- Is it a left child (of its Right)? -/
def isL (t : Fo) (u : Un) : Bool := decide (u.r ∈ t.ids) && (!decide (u.l ∈ t.ids) || decide (u.l ∈ upL t u.r))
def put (t : Fo) (u : Un) : Fo :=
  if isL t u then mod u.r (insBy (fun a => lt a.id u.id) u) id t
  else if u.l ∈ t.ids then mod u.l id (insBy (fun a => ahead t a u) u) t
  else insBy (fun a => ahead t a u) u t
def num (n : Nat) : Bool := decide (1 ≤ n) && decide (n ≤ 9007199254740991)
def rightId (k : Id) : Bool := num k.1 && num k.2
/-- May it be inserted? -/
def may (t : Fo) (u : Un) : Bool :=
  rightId u.id && !decide (u.id ∈ t.ids) && (decide (u.l = none') || decide (u.l ∈ t.ids)) && (decide (u.r = none') || decide (u.r ∈ t.ids)) && (decide (u.l = none') || decide (u.r = none') || decide (t.pos u.l < t.pos u.r))
def insert (t : Fo) (u : Un) : Fo × Bool := if may t u then (put t u, true) else (t, false)
/-- Left children stand by their ids. -/
def LS : Fo → Prop
  | nil => True
  | nd _ l r s => l.tips.Pairwise (fun a b => lt a b = true) ∧ LS l ∧ LS r ∧ LS s
end Fo
end Sq
namespace Sq
open Go Go.RowKit Sx
def idcs (k : Id) : List Value := [.int .u64 (k.1 : Int), .int .u64 (k.2 : Int)]
def idv (k : Id) : Value := .agg (idcs k).toArray
theorem idv_inj {a b : Id} (h : idv a = idv b) : a = b := by
  unfold idv idcs at h
  simp only [Value.agg.injEq] at h
  simp at h
  exact Prod.ext (by omega) (by omega)
theorem id_eq (a b : Id) : Eqv Tryz.prog 3 40 (idv a) (idv b) (decide (a = b)) := by
  unfold idv idcs
  refine Eqv_struct Tryz.underlying40 (by kernel_rfl) ?_
  by_cases h1 : a.1 = b.1
  · refine EqvF_t (m := 1) (m' := 1) (by decide) (PartR_1 Tryz.underlying38 rfl rfl) (PartR_1 Tryz.underlying38 rfl rfl) (Eqv_int_t Tryz.underlying38 (by rw [h1])) ?_
    by_cases h2 : a.2 = b.2
    · rw [decide_eq_true (Prod.ext h1 h2)]
      exact EqvF_t (m := 1) (m' := 0) (by decide) (PartR_1 Tryz.underlying38 rfl rfl) (PartR_1 Tryz.underlying38 rfl rfl) (Eqv_int_t Tryz.underlying38 (by rw [h2])) EqvF_nil
    · rw [decide_eq_false (fun e => h2 (congrArg Prod.snd e))]
      exact EqvF_f (by decide) (PartR_1 Tryz.underlying38 rfl rfl) (PartR_1 Tryz.underlying38 rfl rfl) (Eqv_int_f Tryz.underlying38 (by omega))
  · rw [decide_eq_false (fun e => h1 (congrArg Prod.fst e))]
    have h3 : ((a.1 : Nat) : Int) ≠ (b.1 : Int) := by omega
    exact EqvF_f (by decide) (PartR_1 (v := .int .u64 (a.1 : Int)) Tryz.underlying38 rfl rfl) (PartR_1 (v := .int .u64 (b.1 : Int)) Tryz.underlying38 rfl rfl) (fun d w hd => Eqv_int_f Tryz.underlying38 h3 d w (by omega))
theorem idKey : SxG.KeyOk Tryz.prog 40 idv := by
  refine SxG.KeyOk.of Tryz.underlying40 idv_inj (fun a b => rfl) (fun a b w => ⟨decide (a = b), id_eq a b 10000 w (by decide), by simp⟩) (fun e k w => ?_) (fun k w => ?_)
  · refine SxG.check_struct (n := 9999) Tryz.underlying40 fun f hf => ?_
    simp only [List.mem_cons, List.not_mem_nil, or_false] at hf
    rcases hf with rfl | rfl
    · exact ⟨by decide, .int .u64 (k.1 : Int), PartR_1 Tryz.underlying38 rfl rfl w, MapKept.run_checkKey Tryz.underlying38 (by exact rfl) e 9998⟩
    · exact ⟨by decide, .int .u64 (k.2 : Int), PartR_1 Tryz.underlying38 rfl rfl w, MapKept.run_checkKey Tryz.underlying38 (by exact rfl) e 9998⟩
  · simp [Instr.keyThatStays, Instr.sameBits, idv, idcs]
end Sq
namespace Sq
open Go Go.RowKit Sx Tl
abbrev Grown (X A : World) : Prop := Below X.heap.size X A
theorem grown_start (X : World) : Grown X X.drew := Below.drew (Below.refl _ _)
theorem Blk.raw {w : World} {b : Nat} {l : List Value} {e : TypeId} (h : Blk w b l e) : w.heap[b]? = some (.cells l.toArray e (0, 0)) := h
theorem grown_self (w : World) (g : Nat) (o : Obj) : w.grownBy (w.drew.putObj g o) (some g) :=
  ⟨rfl, rfl, rfl, by rw [World.putObj_size]; exact Nat.le_refl _, fun q hq hne => World.putObj_heap_other (fun e => hne (by rw [e]))⟩
theorem grown_two {w w' : World} {g : Nat} (h : w.grownBy w' (some g)) (o : Obj) : w.grownBy (w'.putObj g o) (some g) :=
  ⟨h.os, h.tape, h.output, by rw [World.putObj_size]; exact h.size, fun q hq hne => (World.putObj_heap_other (fun e => hne (by rw [e]))).trans (h.block q hq hne)⟩
theorem grown_put {w w' : World} {b : Nat} {row : Option Nat} (h : w.grownBy w' row) (hb : w.heap.size ≤ b) (o : Obj) : w.grownBy (w'.putObj b o) row :=
  ⟨h.os, h.tape, h.output, by rw [World.putObj_size]; exact h.size, fun k hk hr => (World.putObj_heap_other (by omega)).trans (h.block k hk hr)⟩
attribute [local irreducible] W Lst Qst Pu seqQ blkQ rndQ cutQ retQ Does Enters IntKind.wrap bits sb World.alloc World.putObj Blk
set_option maxHeartbeats 2000000 in
/-- slices.Insert(s, i, xs...): s a row of one's own; in place, or a new row. -/
theorem c_Ins (B nn i m : Nat) (v y : Value) (xs ns lv : List Value) (vb vo vc tv : Nat) (hi : i ≤ nn) (hm : 0 < m) (hl : nn + m ≤ 1000000000) (w : World) (h : w.ownsRow B 85 1 v nn xs) (hB : B ≤ w.heap.size)
    (hy : y = .slice (some ⟨vb, vo, none⟩) m vc) (hn : ns.length = m) (hvk : Blk w vb lv tv) (hnl : ∀ j u, ns[j]? = some u → lv[vo + j]? = some u) (hx1 : ∀ u ∈ xs, u.oneCell' = true) (hn1 : ∀ u ∈ ns, u.oneCell' = true) (hvb : v.ownBlock ≠ some vb) :
    Does Tryz.prog 73 #[v, .int .i64 (i : Int), y] w fun u w' =>
      w'.ownsRow B 85 1 u (nn + m) (xs.take i ++ ns ++ xs.drop i) ∧ w.grownBy w' v.ownBlock ∧ (u.ownBlock = v.ownBlock ∨ u.ownBlock = some w.heap.size) := by
  subst hy
  refine Does_of (args := [v, .int .i64 (i : Int), .slice (some ⟨vb, vo, none⟩) m vc]) Tryz.func73 (by kernel_rfl) rfl rfl rfl rfl rfl ?_
  have hxl : xs.length = nn := by rw [h.1, Nat.mul_one]
  have hvlt : vb < w.heap.size := hvk.lt
  have hns : ∀ j u, ns[j]? = some u → w.cell? ⟨vb, vo + j, none⟩ = some u := fun j u hu => by rw [hvk.cell]; exact hnl j u hu
  by_cases he : i = nn
  · subst he
    have hform := own_form h
    obtain ⟨a, c, rfl, hc⟩ := hform
    (refine Ga ?_)
    apply Lst_appendAt (hown := h) (bytes := 8) (news := ns)
    focus rfl
    focus rfl
    focus rfl
    focus rfl
    focus rfl
    focus rfl
    focus rfl
    focus rfl
    focus rfl
    focus exact fun j u hu => by rw [add_none]; exact hns j u hu
    focus (rw [hn]; omega)
    focus exact hn1
    focus omega
    focus omega
    focus exact hB
    focus rfl
    intro v' w2 ho hg hat
    obtain ⟨v1, v2, v3, rfl⟩ := own_slice ho
    (refine Ga ?_)
    (apply retQ1; (focus rfl))
    refine ⟨?_, hg, hat⟩
    rw [List.take_of_length_le (by omega), List.drop_of_length_le (by omega), List.append_nil]
    exact ho
  · rcases h.2 with ⟨rfl, hn0⟩ | ⟨g, cap, cur, rfl, hbg, hg, hnc, hcm, hcs, htk⟩
    · omega
    rw [Nat.mul_one] at hcs htk
    have hgv : g ≠ vb := fun e => hvb (by rw [e]; rfl)
    have hcm' : cap ≤ 9223372036854775807 := by simp only [maxLen] at hcm; omega
    have hblk : Blk w g cur.toList 85 := by
      unfold Blk
      rw [Array.toArray_toList]
      exact hg
    have hcl : cur.toList.length = cap := by rw [Array.length_toList, hcs]
    generalize cur.toList = l at *
    clear hg hcs
    have hxn : ∀ j u, xs[j]? = some u → l[j]? = some u := fun j u hu => by
      rw [← htk, List.getElem?_take] at hu
      split at hu
      · exact hu
      · cases hu
    (refine Gf ?_)
    apply Lst_pu
    · apply P_sl_lo (i)
      focus rfl
      focus rfl
      focus rfl
      focus rfl
      focus rfl
      focus omega
      focus omega
      focus omega
    focus rfl
    (refine Gf ?_)
    apply Lst_pu
    · apply P_cap
      focus rfl
      focus rfl
    focus rfl
    by_cases hroom : cap < nn + m
    · (refine Gf ?_)
      apply Lst_pu
      · apply P_sl_hi (i)
        focus rfl
        focus rfl
        focus rfl
        focus rfl
        focus rfl
        focus omega
        focus omega
      focus rfl
      (refine Gf ?_)
      have e1 : (nn : Int) + (m : Int) - (i : Int) = ((nn + m - i : Nat) : Int) := by omega
      apply Lst_zeros (olds := xs.take i)
      focus rfl
      focus exact congrArg (Value.int .i64) e1
      focus rfl
      focus rfl
      focus rfl
      focus rfl
      focus rfl
      focus rfl
      focus (rw [List.length_take]; omega)
      focus (intro j u hu; rw [Nat.zero_add, hblk.cell]; rw [List.getElem?_take] at hu; split at hu; (exact hxn j u hu); (cases hu))
      focus omega
      focus omega
      focus omega
      focus (show (i + (nn + m - i)) * 8 ≤ 140737488355328; omega)
      focus rfl
      intro w1 c1 l1 hb1 hl1 hn1' hcm1 ht1 hg1 hs1
      (refine Gf ?_)
      apply Lst_pu
      · apply P_sl_lo (i)
        focus rfl
        focus rfl
        focus rfl
        focus rfl
        focus rfl
        focus omega
        focus omega
        focus omega
      focus rfl
      (refine Gf ?_)
      have hv1 : ∀ q, w1.cell? ⟨vb, q, none⟩ = w.cell? ⟨vb, q, none⟩ := fun q => World.cell?_of_block (hg1.block vb hvlt (by simp))
      have hgl : g < w.heap.size := hblk.lt
      apply Lst_copyB (cs := ns)
      focus rfl
      focus rfl
      focus rfl
      focus rfl
      focus rfl
      focus (rw [hn]; simp only [Nat.min_def]; split <;> omega)
      focus exact fun q u hu => by rw [add_none, hv1]; exact hns q u hu
      focus exact hb1
      focus omega
      focus exact hn1
      focus rfl
      have hb2 : Blk (w1.putObj w.heap.size (.cells (l1.take (0 + i) ++ ns ++ l1.drop (0 + i + ns.length)).toArray 85)) w.heap.size (l1.take (0 + i) ++ ns ++ l1.drop (0 + i + ns.length)) 85 := Blk.put_same hs1 _ _
      have hg2 : w.grownBy (w1.putObj w.heap.size (.cells (l1.take (0 + i) ++ ns ++ l1.drop (0 + i + ns.length)).toArray 85)) none := grown_put hg1 (Nat.le_refl _) _
      have hl2 : (l1.take (0 + i) ++ ns ++ l1.drop (0 + i + ns.length)).length = c1 := by
        simp only [List.length_append, List.length_take, List.length_drop]
        omega
      have ht2 : (l1.take (0 + i) ++ ns ++ l1.drop (0 + i + ns.length)).take (i + m) = xs.take i ++ ns := by
        rw [List.take_left' (by rw [List.length_append, List.length_take]; omega), Nat.zero_add, ht1]
      generalize l1.take (0 + i) ++ ns ++ l1.drop (0 + i + ns.length) = l2 at *
      generalize w1.putObj w.heap.size (.cells l2.toArray 85) = w2 at *
      have hs2 := hb2.lt
      (refine Gf ?_)
      refine W_draw 8 (fun A => A = w2.drew) rfl (by kernel_rfl) rfl ?_
      (refine Qf ?_)
      apply Qst_pu
      · apply P_sl_lo (i + m)
        focus rfl
        focus rfl
        focus rfl
        focus rfl
        focus rfl
        focus omega
        focus omega
        focus omega
      focus rfl
      (refine Qf ?_)
      apply Qst_pu
      · apply P_sl_lo (i)
        focus rfl
        focus rfl
        focus rfl
        focus rfl
        focus rfl
        focus omega
        focus omega
        focus omega
      focus rfl
      (refine Qf ?_)
      rintro _ rfl
      have hb2d : Blk w2.drew w.heap.size l2 85 := Blk.drew hb2
      have hsrc : ∀ q u, (xs.drop i)[q]? = some u → w2.drew.cell? ((⟨g, 0 + i, none⟩ : Addr).add q) = some u := fun q u hu => by
        rw [add_none]
        rw [List.getElem?_drop] at hu
        have e : w2.drew.cell? ⟨g, 0 + i + q, none⟩ = w.cell? ⟨g, 0 + i + q, none⟩ := World.cell?_of_block (hg2.block g hgl (by simp))
        rw [e, hblk.cell, Nat.zero_add]
        exact hxn _ _ hu
      apply Lst_copyB (cs := xs.drop i)
      focus rfl
      focus rfl
      focus rfl
      focus rfl
      focus rfl
      focus (rw [List.length_drop]; simp only [Nat.min_def]; split <;> omega)
      focus exact hsrc
      focus exact hb2d
      focus (rw [List.length_drop]; omega)
      focus exact fun u hu => hx1 u (List.mem_of_mem_drop hu)
      focus rfl
      (refine Gf ?_)
      (apply retQ1; (focus rfl))
      refine ⟨⟨?_, .inr ⟨w.heap.size, c1, (l2.take (0 + (i + m)) ++ xs.drop i ++ l2.drop (0 + (i + m) + (xs.drop i).length)).toArray, ?_, hB, Blk.raw (Blk.put_same (w := w2.drew) hs2 _ _), by omega, hcm1, ?_, ?_⟩⟩, ?_⟩
      · simp only [List.length_append, List.length_take, List.length_drop]
        omega
      · have : i + (nn + m - i) = nn + m := by omega
        exact congrArg (fun q => Value.slice (some ⟨w.heap.size, 0, none⟩) q c1) this
      · simp only [List.size_toArray, List.length_append, List.length_take, List.length_drop]
        omega
      · rw [Nat.zero_add, ht2, Nat.mul_one]
        exact List.take_left' (by simp only [List.length_append, List.length_take, List.length_drop]; omega)
      · have hg3 : w.grownBy w2.drew none := ⟨hg2.os, hg2.tape, hg2.output, hg2.size, hg2.block⟩
        have := grown_put hg3 (Nat.le_refl w.heap.size) (.cells (l2.take (0 + (i + m)) ++ xs.drop i ++ l2.drop (0 + (i + m) + (xs.drop i).length)).toArray 85)
        exact ⟨⟨this.os, this.tape, this.output, this.size, fun q hq _ => this.block q hq (by simp)⟩, .inr rfl⟩
    · (refine Gf ?_)
      apply Lst_pu
      · apply P_sl_hi (nn + m)
        focus rfl
        focus rfl
        focus rfl
        focus rfl
        focus rfl
        focus omega
        focus omega
      focus rfl
      (refine Gf ?_)
      apply Lst_pu
      · apply P_sl_lo (i + m)
        focus rfl
        focus rfl
        focus rfl
        focus rfl
        focus rfl
        focus omega
        focus omega
        focus omega
      focus rfl
      (refine Gf ?_)
      have hl0 : l.length ≠ 0 := by omega
      apply Lst_ext (e := Extern.SlicesOverlaps.overlaps #[81, 81] #[4]) (v := .bool false)
      focus kernel_rfl
      focus rfl
      focus exact Tryz.func86
      focus kernel_rfl
      focus kernel_rfl
      focus kernel_rfl
      focus exact Lib.run_overlaps_apart w 81 4 85 Tryz.underlying81 1 (fun w => by rfl) ⟨vb, vo, none⟩ ⟨g, 0 + (i + m), none⟩ m vc _ _ (Ne.symm hgv) _ _ _ _ hvk.shape hblk.shape hl0 (hvk.frozen _) (hvk.frozen _)
      focus rfl
      (refine Gf ?_)
      refine W_draw 8 (fun A => A = w.drew) rfl (by kernel_rfl) rfl ?_
      (refine Qf ?_)
      apply Qst_pu
      · apply P_sl_lo (i + m)
        focus rfl
        focus rfl
        focus rfl
        focus rfl
        focus rfl
        focus omega
        focus omega
        focus omega
      focus rfl
      (refine Qf ?_)
      apply Qst_pu
      · apply P_sl_lo (i)
        focus rfl
        focus rfl
        focus rfl
        focus rfl
        focus rfl
        focus omega
        focus omega
        focus omega
      focus rfl
      (refine Qf ?_)
      rintro _ rfl
      have hbd : Blk w.drew g l 85 := Blk.drew hblk
      have hsrc : ∀ q u, (xs.drop i)[q]? = some u → w.drew.cell? ((⟨g, 0 + i, none⟩ : Addr).add q) = some u := fun q u hu => by
        rw [add_none]
        rw [List.getElem?_drop] at hu
        rw [hbd.cell, Nat.zero_add]
        exact hxn _ _ hu
      apply Lst_copyB (cs := xs.drop i)
      focus rfl
      focus rfl
      focus rfl
      focus rfl
      focus rfl
      focus (rw [List.length_drop]; simp only [Nat.min_def]; split <;> omega)
      focus exact hsrc
      focus exact hbd
      focus (rw [List.length_drop]; omega)
      focus exact fun u hu => hx1 u (List.mem_of_mem_drop hu)
      focus rfl
      have hgl : g < w.heap.size := hblk.lt
      have hb2 : Blk (w.drew.putObj g (.cells (l.take (0 + (i + m)) ++ xs.drop i ++ l.drop (0 + (i + m) + (xs.drop i).length)).toArray 85)) g (l.take (0 + (i + m)) ++ xs.drop i ++ l.drop (0 + (i + m) + (xs.drop i).length)) 85 := Blk.put_same (w := w.drew) hgl _ _
      have hg2 : w.grownBy (w.drew.putObj g (.cells (l.take (0 + (i + m)) ++ xs.drop i ++ l.drop (0 + (i + m) + (xs.drop i).length)).toArray 85)) (some g) := grown_self w g _
      have hl2 : (l.take (0 + (i + m)) ++ xs.drop i ++ l.drop (0 + (i + m) + (xs.drop i).length)).length = cap := by
        simp only [List.length_append, List.length_take, List.length_drop]
        omega
      have ht2 : (l.take (0 + (i + m)) ++ xs.drop i ++ l.drop (0 + (i + m) + (xs.drop i).length)).take i = xs.take i := by
        rw [List.append_assoc, List.take_append_of_le_length (by rw [List.length_take]; omega), List.take_take, Nat.min_eq_left (by omega), ← htk, List.take_take, Nat.min_eq_left (by omega)]
      have hd2 : ((l.take (0 + (i + m)) ++ xs.drop i ++ l.drop (0 + (i + m) + (xs.drop i).length)).drop (i + m)).take (nn - i) = xs.drop i := by
        rw [List.append_assoc, List.drop_append, List.drop_of_length_le (by rw [List.length_take]; omega), List.nil_append]
        have : i + m - (l.take (0 + (i + m))).length = 0 := by rw [List.length_take]; omega
        rw [this, List.drop_zero]
        exact List.take_left' (by rw [List.length_drop]; omega)
      generalize l.take (0 + (i + m)) ++ xs.drop i ++ l.drop (0 + (i + m) + (xs.drop i).length) = l2 at *
      generalize w.drew.putObj g (.cells l2.toArray 85) = w2 at *
      have hs2 := hb2.lt
      have hv2 : ∀ q, w2.cell? ⟨vb, q, none⟩ = w.cell? ⟨vb, q, none⟩ := fun q => World.cell?_of_block (hg2.block vb hvlt (by simpa using Ne.symm hgv))
      (refine Gf ?_)
      apply Lst_pu
      · apply P_sl_lo (i)
        focus rfl
        focus rfl
        focus rfl
        focus rfl
        focus rfl
        focus omega
        focus omega
        focus omega
      focus rfl
      (refine Gf ?_)
      apply Lst_copyB (cs := ns)
      focus rfl
      focus rfl
      focus rfl
      focus rfl
      focus rfl
      focus (rw [hn]; simp only [Nat.min_def]; split <;> omega)
      focus exact fun q u hu => by rw [add_none, hv2]; exact hns q u hu
      focus exact hb2
      focus omega
      focus exact hn1
      focus rfl
      (refine Gf ?_)
      (apply retQ1; (focus rfl))
      refine ⟨⟨?_, .inr ⟨g, cap, (l2.take (0 + i) ++ ns ++ l2.drop (0 + i + ns.length)).toArray, rfl, hbg, Blk.raw (Blk.put_same hs2 _ _), by omega, hcm, ?_, ?_⟩⟩, ?_⟩
      · simp only [List.length_append, List.length_take, List.length_drop]
        omega
      · simp only [List.size_toArray, List.length_append, List.length_take, List.length_drop]
        omega
      · rw [Nat.zero_add, ht2, Nat.mul_one, hn]
        show List.take (nn + m) (xs.take i ++ ns ++ l2.drop (i + m)) = _
        rw [List.take_append, List.take_of_length_le (by simp only [List.length_append, List.length_take]; omega)]
        have : nn + m - (xs.take i ++ ns).length = nn - i := by simp only [List.length_append, List.length_take]; omega
        rw [this, hd2]
      · exact ⟨grown_two hg2 _, .inl rfl⟩
end Sq
namespace Sq
open Go Go.RowKit Sx Tl
/-- What a block is for. -/
inductive Tag where
  | other | seq | all | at' | order | root
  | node (k : Id)
  | left (k : Id)
  | right (k : Id)
deriving DecidableEq
/-- Where all lies: the sequence, its maps, each unit's node; what each block is for. -/
structure Env where
  p : Nat
  ma : Nat
  mt : Nat
  ad : Id → Nat
  tg : Nat → Tag
def pv (E : Env) (k : Id) : Value := .pointer (some ⟨E.ad k, 0, none⟩)
def parv (E : Env) : Option Id → Value
  | none => .pointer none
  | some k => pv E k
def ncs (E : Env) (r : Rec) (sl sr : Value) : List Value := [.int .u64 (r.u.id.1 : Int), .int .u64 (r.u.id.2 : Int), .int .u64 (r.u.l.1 : Int), .int .u64 (r.u.l.2 : Int), .int .u64 (r.u.r.1 : Int), .int .u64 (r.u.r.2 : Int), parv E r.par, sl, sr, .int .i64 (r.n : Int)]
def ucs (u : Un) : List Value := [.int .u64 (u.id.1 : Int), .int .u64 (u.id.2 : Int), .int .u64 (u.l.1 : Int), .int .u64 (u.l.2 : Int), .int .u64 (u.r.1 : Int), .int .u64 (u.r.2 : Int)]
/-- A row of pointers to units' nodes, for this. -/
structure RowAt (w : World) (E : Env) (τ : Tag) (v : Value) (l : List Id) : Prop where
  own : w.ownsRow 0 85 1 v l.length (l.map (pv E))
  tag : ∀ g, v.ownBlock = some g → E.tg g = τ
structure NodeAt (w : World) (E : Env) (k : Id) (r : Rec) : Prop where
  tag : E.tg (E.ad k) = .node k
  ex : ∃ sl sr, Blk w (E.ad k) (ncs E r sl sr) 115 ∧ RowAt w E (.left k) sl r.L ∧ RowAt w E (.right k) sr r.R
def RP (v : Value) (b : Nat) : Prop := v = .pointer (some ⟨b, 0, none⟩)
def RI (v : Value) (n : Nat) : Prop := v = .int .i64 (n : Int)
/-- The sequence's own struct, and its rows. -/
structure Core (w : World) (E : Env) (ord rt N D : List Id) (ρ : Id → Rec) : Prop where
  tp : E.tg E.p = .seq
  tma : E.tg E.ma = .all
  tmt : E.tg E.mt = .at'
  seq : ∃ so sr fresh m, Blk w E.p [.map (some E.ma), so, sr, .map (some E.mt), .bool fresh] 83 ∧ RowAt w E .order so ord ∧ RowAt w E .root sr rt ∧ SxG.MpAt idv w E.mt RI m ∧ (fresh = true → ∀ k ∈ ord, SxG.look m k = some (ord.idxOf k))
  all : ∃ es, SxG.MpAt idv w E.ma RP es ∧ ∀ k, SxG.look es k = if k ∈ D then some (E.ad k) else none
  nodes : ∀ k ∈ N, NodeAt w E k (ρ k)
/-- All blocks that are not for these have stayed; there may be new ones. -/
structure Kept (E : Env) (S : Tag → Prop) (w w' : World) : Prop where
  os : w'.os = w.os
  tape : w'.tape = w.tape
  output : w'.output = w.output
  size : w.heap.size ≤ w'.heap.size
  block : ∀ g, g < w.heap.size → ¬ S (E.tg g) → w'.heap[g]? = w.heap[g]?
theorem Kept.refl (E : Env) (S : Tag → Prop) (w : World) : Kept E S w w := ⟨rfl, rfl, rfl, Nat.le_refl _, fun _ _ _ => rfl⟩
theorem Kept.trans {E : Env} {S : Tag → Prop} {x y z : World} (h : Kept E S x y) (k : Kept E S y z) : Kept E S x z :=
  ⟨k.os.trans h.os, k.tape.trans h.tape, k.output.trans h.output, Nat.le_trans h.size k.size, fun g h1 h2 => (k.block g (Nat.lt_of_lt_of_le h1 h.size) h2).trans (h.block g h1 h2)⟩
theorem Kept.mono {E : Env} {S T : Tag → Prop} {x y : World} (h : Kept E S x y) (hs : ∀ t, S t → T t) : Kept E T x y := ⟨h.os, h.tape, h.output, h.size, fun g h1 h2 => h.block g h1 fun h => h2 (hs _ h)⟩
theorem Kept.of {E : Env} {S : Tag → Prop} {w w' : World} (h : Below w.heap.size w w') : Kept E S w w' := ⟨h.os, h.tape, h.output, h.size, fun g h1 _ => h.block g h1⟩
theorem Kept.ofChg {E : Env} {S : Tag → Prop} {bs : List Nat} {w w' : World} (h : Chg bs w w') (hb : ∀ b ∈ bs, S (E.tg b)) : Kept E S w w' := ⟨h.os, h.tape, h.output, h.size, fun g h1 h2 => h.block g h1 fun hm => h2 (hb g hm)⟩
theorem Kept.grown {E : Env} {S : Tag → Prop} {v : Value} {w w' : World} (h : w.grownBy w' v.ownBlock) (hb : ∀ g, v.ownBlock = some g → S (E.tg g)) : Kept E S w w' := ⟨h.os, h.tape, h.output, h.size, fun g h1 h2 => h.block g h1 fun hm => h2 (hb g hm.symm)⟩
theorem Kept.put {E : Env} {S : Tag → Prop} {w : World} (b : Nat) (hb : S (E.tg b)) (o : Obj) : Kept E S w (w.putObj b o) := .ofChg ((Chg.refl [b] w).put (.inl (by simp)) o) (fun g hg => by rw [List.mem_singleton.1 hg]; exact hb)
theorem own_ltg {w : World} {v : Value} {B e n nn : Nat} {xs : List Value} (h : w.ownsRow B e n v nn xs) {g : Nat} (hg : v.ownBlock = some g) : g < w.heap.size := by
  rcases h.2 with ⟨rfl, _⟩ | ⟨g', cap, cur, rfl, _, hc, _⟩
  · cases hg
  · cases hg
    exact lt_of_some hc
theorem own_kept {w w' : World} {v : Value} {B e n nn : Nat} {xs : List Value} (h : w.ownsRow B e n v nn xs) (hk : ∀ g, v.ownBlock = some g → w'.heap[g]? = w.heap[g]?) : w'.ownsRow B e n v nn xs := by
  refine ⟨h.1, ?_⟩
  rcases h.2 with ⟨rfl, hn⟩ | ⟨g, cap, cur, rfl, hb, hc, h1, h2, h3, h4⟩
  · exact .inl ⟨rfl, hn⟩
  · exact .inr ⟨g, cap, cur, rfl, hb, (hk g rfl).trans hc, h1, h2, h3, h4⟩
theorem Kept.row {E : Env} {S : Tag → Prop} {w w' : World} {τ : Tag} {v : Value} {l : List Id} (h : Kept E S w w') (hr : RowAt w E τ v l) (hs : ¬ S τ) : RowAt w' E τ v l :=
  ⟨own_kept hr.own fun g hg => h.block g (own_ltg hr.own hg) (by rw [hr.tag g hg]; exact hs), hr.tag⟩
theorem Kept.blk {E : Env} {S : Tag → Prop} {w w' : World} {b : Nat} {l : List Value} {e : TypeId} (h : Kept E S w w') (hb : Blk w b l e) (hs : ¬ S (E.tg b)) : Blk w' b l e := (h.block b hb.lt hs).trans hb
theorem Kept.node {E : Env} {S : Tag → Prop} {w w' : World} {k : Id} {r : Rec} (h : Kept E S w w') (hn : NodeAt w E k r) (h1 : ¬ S (.node k)) (h2 : ¬ S (.left k)) (h3 : ¬ S (.right k)) : NodeAt w' E k r := by
  obtain ⟨ht, sl, sr, hb, hl, hr⟩ := hn
  exact ⟨ht, sl, sr, h.blk hb (by rw [ht]; exact h1), h.row hl h2, h.row hr h3⟩
theorem Kept.map {E : Env} {S : Tag → Prop} {w w' : World} {α : Type} {R : Value → α → Prop} {b : Nat} {m : List (Id × α)} (h : Kept E S w w') (hm : SxG.MpAt idv w b R m) (hs : ¬ S (E.tg b)) : SxG.MpAt idv w' b R m :=
  hm.mono (h.block b hm.lt hs) fun _ _ h => h
/-- What no unit's node, nor the sequence's own, is touched by. -/
theorem Core.kept {E : Env} {S : Tag → Prop} {w w' : World} {ord rt N D : List Id} {ρ : Id → Rec} (h : Core w E ord rt N D ρ) (hk : Kept E S w w') (hs : ∀ t, S t → t = .other) : Core w' E ord rt N D ρ := by
  have no : ∀ t, t ≠ .other → ¬ S t := fun t ht hS => ht (hs t hS)
  obtain ⟨so, sr, fresh, m, h1, h2, h3, h4, h5⟩ := h.seq
  obtain ⟨es, h6, h7⟩ := h.all
  exact ⟨h.tp, h.tma, h.tmt, ⟨so, sr, fresh, m, hk.blk h1 (by rw [h.tp]; exact no _ (by simp)), hk.row h2 (no _ (by simp)), hk.row h3 (no _ (by simp)), hk.map h4 (by rw [h.tmt]; exact no _ (by simp)), h5⟩,
    ⟨es, hk.map h6 (by rw [h.tma]; exact no _ (by simp)), h7⟩, fun k hkN => hk.node (h.nodes k hkN) (no _ (by simp)) (no _ (by simp)) (no _ (by simp))⟩
theorem Core.below {E : Env} {w w' : World} {ord rt N D : List Id} {ρ : Id → Rec} (h : Core w E ord rt N D ρ) (hb : Below w.heap.size w w') : Core w' E ord rt N D ρ :=
  h.kept (S := fun _ => False) (.of hb) fun _ h => h.elim
end Sq
namespace Ids
open Go Go.RowKit Sx
attribute [local irreducible] W Lst Qst Pu seqQ blkQ rndQ cutQ retQ Does Enters IntKind.wrap bits sb World.alloc World.putObj Blk
def idv (c k : Int) : Value := .agg #[.int .u64 c, .int .u64 k]
theorem c_number (n : Int) (w : World) : Does Tryz.prog 67 #[.int .u64 n] w fun v w' => v = .bool (decide (1 ≤ n ∧ n ≤ 9007199254740991)) ∧ w = w' := by
  refine Does_of (args := [.int .u64 n]) Tryz.func67 (by kernel_rfl) rfl rfl rfl rfl rfl ?_
  by_cases h1 : 1 ≤ n
  · by_cases h2 : n ≤ 9007199254740991
    · (refine Ga ?_)
      (apply retQ1; (focus rfl))
      exact ⟨congrArg Value.bool (by simp; omega), rfl⟩
    · (refine Ga ?_)
      (apply retQ1; (focus rfl))
      exact ⟨congrArg Value.bool (by simp; omega), rfl⟩
  · (refine Ga ?_)
    (apply retQ1; (focus rfl))
    exact ⟨congrArg Value.bool (by simp; omega), rfl⟩
theorem c_Right (c k : Int) (w : World) : Does Tryz.prog 35 #[idv c k] w fun v w' => v = .bool (decide ((1 ≤ c ∧ c ≤ 9007199254740991) ∧ (1 ≤ k ∧ k ≤ 9007199254740991))) ∧ Below w.heap.size w w' := by
  refine Does_of (args := [idv c k]) Tryz.func35 (by kernel_rfl) rfl rfl rfl rfl rfl ?_
  (refine Ga ?_)
  (apply Lst_call; (focus rfl); (focus rfl))
  refine (c_number c _).mono ?_
  rintro v w' ⟨rfl, rfl⟩
  by_cases h1 : 1 ≤ c ∧ c ≤ 9007199254740991
  · rw [decide_eq_true h1]
    (refine Ga ?_)
    (apply Lst_call; (focus rfl); (focus rfl))
    refine (c_number k _).mono ?_
    rintro v w' ⟨rfl, rfl⟩
    (refine Ga ?_)
    (apply retQ1; (focus rfl))
    exact ⟨congrArg Value.bool (by simp [h1]), Bel⟩
  · rw [decide_eq_false h1]
    (refine Ga ?_)
    (apply retQ1; (focus rfl))
    exact ⟨congrArg Value.bool (by simp [h1]), Bel⟩
theorem c_none (c k : Int) (w : World) : Does Tryz.prog 69 #[idv c k] w fun v w' => v = .bool (decide (c = 0 ∧ k = 0)) ∧ Below w.heap.size w w' := by
  refine Does_of (args := [idv c k]) Tryz.func69 (by kernel_rfl) rfl rfl rfl rfl rfl ?_
  by_cases h : c = 0
  · by_cases h2 : k = 0
    · (refine Ga ?_)
      (apply retQ1; (focus rfl))
      exact ⟨congrArg Value.bool (by simp [h, h2]), Bel⟩
    · (refine Ga ?_)
      (apply retQ1; (focus rfl))
      exact ⟨congrArg Value.bool (by simp [h, h2]), Bel⟩
  · (refine Ga ?_)
    (apply retQ1; (focus rfl))
    exact ⟨congrArg Value.bool (by simp [h]), Bel⟩
theorem c_Less (a b c d : Int) (w : World) : Does Tryz.prog 41 #[idv a b, idv c d] w fun v w' => v = .bool (decide (a < c ∨ a = c ∧ b < d)) ∧ Below w.heap.size w w' := by
  refine Does_of (args := [idv a b, idv c d]) Tryz.func41 (by kernel_rfl) rfl rfl rfl rfl rfl ?_
  by_cases h1 : a < c
  · (refine Ga ?_)
    (apply retQ1; (focus rfl))
    exact ⟨congrArg Value.bool (by simp; omega), Bel⟩
  · by_cases h2 : a = c
    · by_cases h3 : b < d
      · (refine Ga ?_)
        (apply retQ1; (focus rfl))
        exact ⟨congrArg Value.bool (by simp; omega), Bel⟩
      · (refine Ga ?_)
        (apply retQ1; (focus rfl))
        exact ⟨congrArg Value.bool (by simp; omega), Bel⟩
    · (refine Ga ?_)
      (apply retQ1; (focus rfl))
      exact ⟨congrArg Value.bool (by simp; omega), Bel⟩
theorem c_RLess (a b c d : Int) (w : World) : Does Tryz.prog 57 #[idv a b, idv c d] w fun v w' => v = .bool (decide (a < c ∨ a = c ∧ b < d)) ∧ Below w.heap.size w w' := by
  refine Does_of (args := [idv a b, idv c d]) Tryz.func57 (by kernel_rfl) rfl rfl rfl rfl rfl ?_
  by_cases h1 : a < c
  · (refine Ga ?_)
    (apply retQ1; (focus rfl))
    exact ⟨congrArg Value.bool (by simp; omega), Bel⟩
  · by_cases h2 : a = c
    · by_cases h3 : b < d
      · (refine Ga ?_)
        (apply retQ1; (focus rfl))
        exact ⟨congrArg Value.bool (by simp; omega), Bel⟩
      · (refine Ga ?_)
        (apply retQ1; (focus rfl))
        exact ⟨congrArg Value.bool (by simp; omega), Bel⟩
    · (refine Ga ?_)
      (apply retQ1; (focus rfl))
      exact ⟨congrArg Value.bool (by simp; omega), Bel⟩
theorem c_RRight (c k : Int) (w : World) : Does Tryz.prog 45 #[idv c k] w fun v w' => v = .bool (decide ((1 ≤ c ∧ c ≤ 9007199254740991) ∧ (1 ≤ k ∧ k ≤ 9007199254740991))) ∧ Below w.heap.size w w' := by
  refine Does_of (args := [idv c k]) Tryz.func45 (by kernel_rfl) rfl rfl rfl rfl rfl ?_
  by_cases h1 : 1 ≤ c
  · by_cases h2 : c ≤ 9007199254740991
    · by_cases h3 : 1 ≤ k
      · by_cases h4 : k ≤ 9007199254740991
        · (refine Ga ?_)
          (apply retQ1; (focus rfl))
          exact ⟨congrArg Value.bool (by simp; omega), Bel⟩
        · (refine Ga ?_)
          (apply retQ1; (focus rfl))
          exact ⟨congrArg Value.bool (by simp; omega), Bel⟩
      · (refine Ga ?_)
        (apply retQ1; (focus rfl))
        exact ⟨congrArg Value.bool (by simp; omega), Bel⟩
    · (refine Ga ?_)
      (apply retQ1; (focus rfl))
      exact ⟨congrArg Value.bool (by simp; omega), Bel⟩
  · (refine Ga ?_)
    (apply retQ1; (focus rfl))
    exact ⟨congrArg Value.bool (by simp; omega), Bel⟩
end Ids
namespace Sq
open Go Go.RowKit Sx Tl
theorem n_none (k : Id) (w : World) : Does Tryz.prog 69 #[idv k] w fun v w' => v = .bool (decide (k = Fo.none')) ∧ Below w.heap.size w w' :=
  (Ids.c_none k.1 k.2 w).mono fun v w' h => ⟨h.1.trans (congrArg Value.bool (by
    rw [decide_eq_decide]
    exact ⟨fun h => Prod.ext (by show k.1 = 0; omega) (by show k.2 = 0; omega), fun h => by rw [h]; exact ⟨rfl, rfl⟩⟩)), h.2⟩
theorem n_Right (k : Id) (w : World) : Does Tryz.prog 35 #[idv k] w fun v w' => v = .bool (Fo.rightId k) ∧ Below w.heap.size w w' :=
  (Ids.c_Right k.1 k.2 w).mono fun v w' h => ⟨h.1.trans (congrArg Value.bool (by
    unfold Fo.rightId Fo.num
    rw [Bool.eq_iff_iff]
    simp
    omega)), h.2⟩
theorem n_Less (a b : Id) (w : World) : Does Tryz.prog 41 #[idv a, idv b] w fun v w' => v = .bool (Fo.lt a b) ∧ Below w.heap.size w w' :=
  (Ids.c_Less a.1 a.2 b.1 b.2 w).mono fun v w' h => ⟨h.1.trans (congrArg Value.bool (by
    unfold Fo.lt
    rw [Bool.eq_iff_iff]
    simp
    omega)), h.2⟩
/-- All cells are kept. -/
structure KC (A A' : World) : Prop where
  size : A.heap.size ≤ A'.heap.size
  same : ∀ (k : Nat) (o : Obj), A.heap[k]? = some o → o.isCells = true → A'.heap[k]? = some o
theorem KC.refl (A : World) : KC A A := ⟨Nat.le_refl _, fun _ _ h _ => h⟩
theorem KC.trans {A B C : World} (h : KC A B) (k : KC B C) : KC A C := ⟨Nat.le_trans h.size k.size, fun i o hi ho => k.same i o (h.same i o hi ho) ho⟩
theorem KC.blk {A A' : World} {b : Nat} {l : List Value} {e : TypeId} (h : KC A A') (hb : Blk A b l e) : Blk A' b l e := h.same _ _ hb rfl
theorem KC.cell {A A' : World} {p : Addr} {v : Value} (h : KC A A') (hb : A.cell? p = some v) : A'.cell? p = some v := by
  unfold World.cell? at hb ⊢
  cases hx : A.heap[p.block]? with
  | none => simp [hx] at hb
  | some o =>
    have : o.isCells = true := by
      cases o <;> simp [hx] at hb <;> rfl
    rw [h.same _ _ hx this]
    rw [hx] at hb
    exact hb
theorem KC.put {w : World} (A : World) (l : Nat) (r r' : Loop) (_ : w.heap.size ≤ l) (h : A.heap[l]? = some (.loop r)) : KC A (A.putObj l (.loop r')) :=
  ⟨by rw [World.putObj_size]; exact Nat.le_refl _, fun k o hk ho => by
    by_cases e : k = l
    · subst e
      rw [h] at hk
      cases hk
      cases ho
    · exact (World.putObj_heap_other e).trans hk⟩
/-- What the iterator hands over. -/
def encU (ord : List Id) (ρ : Id → Rec) (k : Nat) : List Value := [.int .i64 (k : Int), .agg (ucs (ρ (ord.getD k (0, 0))).u).toArray]
variable {E : Env} {ord rt N D : List Id} {ρ : Id → Rec} {w : World}
/-- One pointer of a row. -/
theorem RowAt.at {τ : Tag} {v : Value} {l : List Id} (h : RowAt w E τ v l) : ∃ a c, v = .slice a l.length c ∧ l.length ≤ c ∧ ∀ i (hi : i < l.length), ∃ g, a = some ⟨g, 0, none⟩ ∧ w.cell? ⟨g, 0 + i, none⟩ = some (pv E l[i]) := by
  obtain ⟨hl, h⟩ := h.own
  rcases h with ⟨rfl, hn⟩ | ⟨g, cap, cur, rfl, _, hc, h1, h2, h3, h4⟩
  · exact ⟨none, 0, by rw [hn], by omega, fun i hi => by omega⟩
  · refine ⟨_, cap, rfl, h1, fun i hi => ⟨g, rfl, ?_⟩⟩
    have e : (cur.toList.take (l.length * 1))[i]? = some (pv E l[i]) := by
      rw [h4, List.getElem?_map, List.getElem?_eq_getElem hi]
      rfl
    rw [List.getElem?_take] at e
    split at e
    · unfold World.cell?
      simp only [hc]
      simpa using e
    · cases e
attribute [local irreducible] W Lst Qst Pu seqQ blkQ rndQ cutQ retQ Does Enters IntKind.wrap bits sb World.alloc World.putObj Blk
set_option maxHeartbeats 2000000 in
theorem g_All (B : Nat) (hB : Blk w B [.pointer (some ⟨E.p, 0, none⟩)] 25) (h : Core w E ord rt N D ρ) (hN : ∀ j ∈ ord, j ∈ N) (hlen : ord.length ≤ 1000000000) :
    Gives Tryz.prog 88 #[.pointer (some ⟨B, 0, none⟩)] ord.length (fun k => (encU ord ρ k).toArray) KC w := by
  intro l J Jx W1 hb1 hJ hJx hY h0
  have hB1 := hB.below hb1 hB.lt
  have h1 := h.below hb1
  obtain ⟨so, sr, fresh, m, hS, hO, _, _, _⟩ := h1.seq
  obtain ⟨a, c, rfl, hc, hcell⟩ := hO.at
  have hd : Does Tryz.prog 88 #[.func (.yield l) #[] #[], .pointer (some ⟨B, 0, none⟩)] W1 fun v A' => (J ord.length A' ∨ ∃ k, 0 < k ∧ k ≤ ord.length ∧ Jx k A') := by
    refine Does_of (args := [.func (.yield l) #[] #[], .pointer (some ⟨B, 0, none⟩)]) Tryz.func88 (by kernel_rfl) rfl rfl rfl rfl rfl ?_
    (refine Ga ?_)
    refine W_loop (α := Nat) (fun i => [(0, .func (.yield l) #[] #[]), (8, .slice a ord.length c), (9, .int .i64 (ord.length : Int)), (10, .int .i64 (i : Int))]) (fun i A => i ≤ ord.length ∧ J i A ∧ KC W1 A) (fun i _ => ord.length - i) 0 ⟨Nat.zero_le _, h0, KC.refl _⟩ ⟨rfl, rfl, rfl, rfl, trivial⟩ ?_
    rintro K i A ⟨hi, hj, hk⟩
    by_cases hil : i < ord.length
    · obtain ⟨g, rfl, hci⟩ := hcell i hil
      obtain ⟨_, sl, sr', hn, _, _⟩ := h1.nodes _ (hN _ (List.getElem_mem hil))
      have hci := hk.cell hci
      have hn := hk.blk hn
      have henc : encU ord ρ i = [.int .i64 (i : Int), .agg (ucs (ρ ord[i]).u).toArray] := by
        unfold encU
        rw [List.getD_eq_getElem?_getD, List.getElem?_eq_getElem hil]
        rfl
      have hy := hY i A hil hj
      dsimp only at hy
      rw [henc] at hy
      unfold ucs at hy
      unfold ncs pv at *
      generalize ord[i] = j at *
      (refine Ga ?_)
      apply Lst_yield
      focus rfl
      focus rfl
      obtain ⟨fn, tmps, assign, body, y1, y2⟩ := hy
      refine ⟨fn, tmps, assign, body, y1, y2.mono ?_⟩
      rintro e A' (⟨rfl, hj', hkp⟩ | ⟨rfl, hjx⟩)
      · refine ⟨_, rfl, ?_⟩
        (refine Ga ?_)
        refine rndQ_n (α := Nat) (i + 1) ⟨hil, hj', hk.trans hkp⟩ ⟨rfl, rfl, rfl, ?_, trivial⟩ (by omega)
        exact congrArg (Value.int .i64) (by omega)
      · refine ⟨_, rfl, ?_⟩
        (refine Ga ?_)
        exact retQ0 (.inr ⟨i + 1, by omega, hil, hjx⟩)
    · obtain rfl : i = ord.length := by omega
      (refine Ga ?_)
      exact retQ0n (.inl hj)
  unfold Does at hd
  refine hd.2.mono ?_
  rintro e A ⟨v, rfl, h⟩
  exact ⟨⟨v, rfl⟩, h⟩
theorem e_All : Sx.Enters Tryz.prog 88 := Sx.enters_of Tryz.func88 (by kernel_rfl) rfl
theorem c_All (p : Nat) (w : World) (B : Nat) (hB : w.heap.size = B) : Does Tryz.prog 74 #[.pointer (some ⟨p, 0, none⟩)] w fun v w' => v = .func (.func 88) #[] #[.pointer (some ⟨B, 0, none⟩)] ∧ w' = w.alloc (.cells [.pointer (some ⟨p, 0, none⟩)].toArray 25) := by
  subst hB
  refine Does_of (args := [.pointer (some ⟨p, 0, none⟩)]) Tryz.func74 (by kernel_rfl) rfl rfl rfl rfl rfl ?_
  (refine Ga ?_)
  (apply retQ1; (focus rfl))
  exact ⟨rfl, rfl⟩
/-- What a look-up gives. -/
theorem Core.lookAll (h : Core w E ord rt N D ρ) (k : Id) : (Instr.lookup 79 (.map (some E.ma)) (idv k) false).run Tryz.prog w = .ok (if k ∈ D then pv E k else .pointer none) w := by
  obtain ⟨es, hm, he⟩ := h.all
  obtain ⟨v, there, hg, hrun⟩ := SxG.run_look (P := Tryz.prog) (k := k) (z := .pointer none) false Tryz.underlying79 idKey (by rfl) hm
  rw [hrun]
  rcases hg with ⟨h1, rfl, _⟩ | ⟨a, h1, h2, _⟩
  · rw [he] at h1
    split at h1
    · cases h1
    · rename_i hn
      rw [if_neg hn]
      rfl
  · rw [he] at h1
    split at h1
    · rename_i hn
      cases h1
      rw [if_pos hn]
      unfold RP at h2
      rw [h2]
      rfl
    · cases h1
theorem lookMt {m : List (Id × Nat)} {mt : Nat} (hm : SxG.MpAt idv w mt RI m) (k : Id) (i : Nat) (hk : SxG.look m k = some i) : (Instr.lookup 80 (.map (some mt)) (idv k) false).run Tryz.prog w = .ok (.int .i64 (i : Int)) w := by
  obtain ⟨v, there, hg, hrun⟩ := SxG.run_look (P := Tryz.prog) (k := k) (z := .int .i64 0) false Tryz.underlying80 idKey (by rfl) hm
  rw [hrun]
  rcases hg with ⟨h1, _, _⟩ | ⟨a, h1, h2, _⟩
  · rw [hk] at h1
    cases h1
  · rw [hk] at h1
    cases h1
    unfold RI at h2
    rw [h2]
    rfl
section rules
variable {P : Program} {n : Nat} {ops : Array Oper} {C : World → Prop} {K : Fr → Prop} {rest : List Oper} {F : Fr} {ds : List Deferred} {ty : TypeId} {pos : String} {after : Array Edge}
theorem Qst_lookup {d : Nat} {t : TypeId} {m x : Operand} {v u z : Value} (hm : ev F m = u) (hx : ev F x = z) (hrun : ∀ w, C w → (Instr.lookup t u z false).run P w = .ok v w) (hd : Nat.blt d n = true) (h : Qst P n ops C K rest (upd F d v) ds) : Qst P n ops C K (⟨some d, .lookup t m x false, ty, pos, after, none⟩ :: rest) F ds :=
  Qst_value rfl (fun w hw => by simp [execOp, hm, hx, hrun w hw]) hd h
end rules
end Sq
end Go.Proofs.YtmgipnckojopcaaGreat
