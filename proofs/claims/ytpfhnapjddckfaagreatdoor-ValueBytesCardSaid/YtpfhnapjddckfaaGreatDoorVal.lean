/- The walks of package value: NaNs, bits, ranks, comparisons. -/
import Derived.Test.YtpfhnapjddckfaaGreatDoorProg
import Derived.Test.YtpfhnapjddckfaaGreatDoorSxGo
namespace Go.Proofs.YtpfhnapjddckfaaGreatDoor
set_option maxRecDepth 100000
namespace Val
open Go Go.RowKit Sx Fl
attribute [local irreducible] W Lst Qst Pu seqQ blkQ rndQ cutQ retQ Does Enters IntKind.wrap bits sb World.alloc World.putObj Blk
/-- A value as the program has it. -/
def valv (k n : Int) (f : Nat) (s : ByteArray) : Value := .agg #[.int .i64 k, .int .i64 n, .float .f64 f, .string s]
theorem ord_self_nan {f : Nat} (h : isNaN f = true) : Ieee.double.order f f = none := order_nan f f (.inl h)
theorem ord_self {f : Nat} (h : isNaN f = false) : Ieee.double.order f f = some .eq := by rw [order_eq f f h h, cmp_eq rfl]
theorem c_isNaN (f : Nat) (w : World) : Does Tryz.prog 58 #[.float .f64 f] w fun v w' => v = .bool (isNaN f) ∧ w = w' := by
  refine Does_of (args := [.float .f64 f]) Tryz.func58 (by kernel_rfl) rfl rfl rfl rfl rfl ?_
  cases h : isNaN f
  · have ho := ord_self h
    (refine Gf ?_)
    (apply retQ1; (focus rfl))
    exact ⟨rfl, rfl⟩
  · have ho := ord_self_nan h
    (refine Gf ?_)
    (apply retQ1; (focus rfl))
    exact ⟨rfl, rfl⟩
/-- A float's bits, all NaNs one. -/
def nbits (f : Nat) : Nat := if isNaN f then 9221120237041090560 else f
theorem c_bitsOf (f : Nat) (w : World) : Does Tryz.prog 32 #[.float .f64 f] w fun v w' => v = .int .u64 (nbits f) ∧ w = w' := by
  refine Does_of (args := [.float .f64 f]) Tryz.func32 (by kernel_rfl) rfl rfl rfl rfl rfl ?_
  (refine Ga ?_)
  (apply Lst_call; (focus rfl); (focus rfl))
  refine (c_isNaN f w).mono ?_
  rintro v w' ⟨rfl, rfl⟩
  unfold nbits
  cases h : isNaN f
  · (refine Gf ?_)
    (apply retQ1; (focus rfl))
    exact ⟨rfl, rfl⟩
  · (refine Gf ?_)
    (apply retQ1; (focus rfl))
    exact ⟨rfl, rfl⟩
theorem c_float (f : Nat) (w : World) : Does Tryz.prog 21 #[.float .f64 f] w fun v w' => v = valv 3 0 f ⟨#[]⟩ ∧ Below w.heap.size w w' := by
  refine Does_of (args := [.float .f64 f]) Tryz.func21 (by kernel_rfl) rfl rfl rfl rfl rfl ?_
  (refine Gf ?_)
  (refine Reta ?_)
  exact ⟨rfl, Bel⟩
theorem wrap_big (f : Nat) (h1 : 9223372036854775808 ≤ f) (h2 : f < 18446744073709551616) : IntKind.i64.wrap (f : Int) = (f : Int) - 18446744073709551616 := by
  simp [IntKind.wrap, IntKind.signed, IntKind.bits]
  omega
theorem c_signbit (f : Nat) (hf : f < 18446744073709551616) (w : World) : Does Tryz.prog 72 #[.float .f64 f] w fun v w' => v = .bool (sgn f) ∧ w = w' := by
  refine Does_of (args := [.float .f64 f]) Tryz.func72 (by kernel_rfl) rfl rfl rfl rfl rfl ?_
  by_cases h : f < 9223372036854775808
  · have hs : sgn f = false := by unfold sgn; rw [show f / 9223372036854775808 = 0 by omega]; rfl
    rw [hs]
    have hw : IntKind.i64.wrap (f : Int) = (f : Int) := wi64 (by omega) (by omega)
    (refine Gf ?_)
    (apply retQ1; (focus rfl))
    exact ⟨rfl, rfl⟩
  · have hs : sgn f = true := by unfold sgn; rw [show f / 9223372036854775808 = 1 by omega]; rfl
    rw [hs]
    have hw := wrap_big f (by omega) hf
    (refine Gf ?_)
    (apply retQ1; (focus rfl))
    exact ⟨rfl, rfl⟩
theorem c_nanint (a : Int) (w : World) : Does Tryz.prog 68 #[.int .i64 a] w fun v w' => v = .bool false ∧ w = w' := by
  refine Does_of (args := [.int .i64 a]) Tryz.func68 (by kernel_rfl) rfl rfl rfl rfl rfl ?_
  (refine Gf ?_)
  (apply retQ1; (focus rfl))
  exact ⟨rfl, rfl⟩
theorem c_ints (a b : Int) (w : World) : Does Tryz.prog 47 #[.int .i64 a, .int .i64 b] w fun v w' => v = .int .i64 (if a < b then -1 else if b < a then 1 else 0) ∧ w = w' := by
  refine Does_of (args := [.int .i64 a, .int .i64 b]) Tryz.func47 (by kernel_rfl) rfl rfl rfl rfl rfl ?_
  (refine Gf ?_)
  (apply Lst_call; (focus rfl); (focus rfl))
  refine (c_nanint a w).mono ?_
  rintro v w' ⟨rfl, rfl⟩
  (refine Gf ?_)
  (apply Lst_call; (focus rfl); (focus rfl))
  refine (c_nanint b w).mono ?_
  rintro v w' ⟨rfl, rfl⟩
  by_cases h1 : a < b
  · rw [if_pos h1]
    (refine Gf ?_)
    (apply retQ1; (focus rfl))
    exact ⟨rfl, rfl⟩
  · rw [if_neg h1]
    by_cases h2 : b < a
    · rw [if_pos h2]
      (refine Gf ?_)
      (apply retQ1; (focus rfl))
      exact ⟨rfl, rfl⟩
    · rw [if_neg h2]
      (refine Gf ?_)
      (apply retQ1; (focus rfl))
      exact ⟨rfl, rfl⟩
theorem c_nanint64 (a : Int) (w : World) : Does Tryz.prog 69 #[.int .i64 a] w fun v w' => v = .bool false ∧ w = w' := by
  refine Does_of (args := [.int .i64 a]) Tryz.func69 (by kernel_rfl) rfl rfl rfl rfl rfl ?_
  (refine Gf ?_)
  (apply retQ1; (focus rfl))
  exact ⟨rfl, rfl⟩
theorem c_int64s (a b : Int) (w : World) : Does Tryz.prog 48 #[.int .i64 a, .int .i64 b] w fun v w' => v = .int .i64 (if a < b then -1 else if b < a then 1 else 0) ∧ w = w' := by
  refine Does_of (args := [.int .i64 a, .int .i64 b]) Tryz.func48 (by kernel_rfl) rfl rfl rfl rfl rfl ?_
  (refine Gf ?_)
  (apply Lst_call; (focus rfl); (focus rfl))
  refine (c_nanint64 a w).mono ?_
  rintro v w' ⟨rfl, rfl⟩
  (refine Gf ?_)
  (apply Lst_call; (focus rfl); (focus rfl))
  refine (c_nanint64 b w).mono ?_
  rintro v w' ⟨rfl, rfl⟩
  by_cases h1 : a < b
  · rw [if_pos h1]
    (refine Gf ?_)
    (apply retQ1; (focus rfl))
    exact ⟨rfl, rfl⟩
  · rw [if_neg h1]
    by_cases h2 : b < a
    · rw [if_pos h2]
      (refine Gf ?_)
      (apply retQ1; (focus rfl))
      exact ⟨rfl, rfl⟩
    · rw [if_neg h2]
      (refine Gf ?_)
      (apply retQ1; (focus rfl))
      exact ⟨rfl, rfl⟩
theorem c_nanflt (f : Nat) (w : World) : Does Tryz.prog 84 #[.float .f64 f] w fun v w' => v = .bool (isNaN f) ∧ w = w' := by
  refine Does_of (args := [.float .f64 f]) Tryz.func84 (by kernel_rfl) rfl rfl rfl rfl rfl ?_
  cases h : isNaN f
  · have ho := ord_self h
    (refine Gf ?_)
    (apply retQ1; (focus rfl))
    exact ⟨rfl, rfl⟩
  · have ho := ord_self_nan h
    (refine Gf ?_)
    (apply retQ1; (focus rfl))
    exact ⟨rfl, rfl⟩
/-- What value.rank makes of a float: the two noughts one, a NaN nought. -/
def rankf (f : Nat) : Nat := if isNaN f then 0 else if rung f = 0 then 0 else f
theorem ord_zero_eq {f : Nat} (h : isNaN f = false) (h0 : rung f = 0) : Ieee.double.order f 0 = some .eq := by
  rw [order_eq f 0 h (by rfl), cmp_eq]
  unfold sk
  rw [h0]
  cases sgn f <;> rfl
theorem ord_zero_ne {f : Nat} (h : isNaN f = false) (h0 : rung f ≠ 0) : ∃ c, Ieee.double.order f 0 = some c ∧ c ≠ .eq := by
  rw [order_eq f 0 h (by rfl)]
  have e0 : sk 0 = 0 := rfl
  rw [e0]
  unfold sk
  cases sgn f
  · exact ⟨_, rfl, by rw [if_neg (by simp), cmp_gt (by omega)]; simp⟩
  · exact ⟨_, rfl, by rw [if_pos rfl, cmp_lt (by omega)]; simp⟩
theorem c_rank (f : Nat) (hf : f < 18446744073709551616) (w : World) : Does Tryz.prog 70 #[.float .f64 f] w fun v w' => v = .tuple #[.int .i64 (if isNaN f then 1 else 0), .float .f64 (rankf f)] ∧ w = w' := by
  refine Does_of (args := [.float .f64 f]) Tryz.func70 (by kernel_rfl) rfl rfl rfl rfl rfl ?_
  (refine Gf ?_)
  (apply Lst_call; (focus rfl); (focus rfl))
  refine (c_isNaN f w).mono ?_
  rintro v w' ⟨rfl, rfl⟩
  unfold rankf
  cases h : isNaN f
  · by_cases h0 : rung f = 0
    · have ho := ord_zero_eq h h0
      rw [if_neg (by simp), if_neg (by simp), if_pos h0]
      (refine Gf ?_)
      (apply Lst_call; (focus rfl); (focus rfl))
      refine (c_signbit f hf w).mono ?_
      rintro v w' ⟨rfl, rfl⟩
      cases hs : sgn f
      · have hz : f = 0 := by
          unfold sgn at hs
          unfold rung at h0
          have := beq_eq_false_iff_ne.1 hs
          omega
        subst hz
        (refine Gf ?_)
        (apply retQ2; (focus rfl); (focus rfl))
        exact ⟨rfl, rfl⟩
      · (refine Gf ?_)
        (apply retQ2; (focus rfl); (focus rfl))
        exact ⟨rfl, rfl⟩
    · rw [if_neg (by simp), if_neg (by simp), if_neg h0]
      obtain ⟨c, ho, hc⟩ := ord_zero_ne h h0
      rcases c with _ | _ | _
      · (refine Gf ?_)
        (apply retQ2; (focus rfl); (focus rfl))
        exact ⟨rfl, rfl⟩
      · exact absurd rfl hc
      · (refine Gf ?_)
        (apply retQ2; (focus rfl); (focus rfl))
        exact ⟨rfl, rfl⟩
  · (refine Gf ?_)
    (apply retQ2; (focus rfl); (focus rfl))
    exact ⟨rfl, rfl⟩
end Val
end Go.Proofs.YtpfhnapjddckfaaGreatDoor
