/- Plain facts on float64 words: their opposites, sums with a nought. No program. -/
import Derived.Test.YtnlmilcfmalodaaDoorSxMore
import Derived.Test.YtnlmilcfmalodaaDoorVal3
namespace Go.Proofs.YtnlmilcfmalodaaDoor
namespace Val
open Go Go.RowKit Sx Fl Ieee
theorem rung_neg (f : Nat) : rung (negf f) = rung f := by
  unfold rung negf
  rw [show (9223372036854775808 : Nat) = 2 ^ 63 by rfl, Nat.xor_mod_two_pow]
  simp
theorem sgn_neg (f : Nat) (hf : f < 18446744073709551616) : sgn (negf f) = !sgn f := by
  unfold sgn negf
  rw [show (f ^^^ 9223372036854775808) / 9223372036854775808 = (f / 9223372036854775808) ^^^ 1 by
    rw [show (9223372036854775808 : Nat) = 2 ^ 63 by rfl, Nat.xor_div_two_pow]]
  have h : f / 9223372036854775808 = 0 ∨ f / 9223372036854775808 = 1 := by omega
  rcases h with h | h <;> rw [h] <;> rfl
theorem read_neg (f : Nat) (hf : f < 18446744073709551616) : double.read (negf f) = (double.read f).opposite := by
  have hs : double.signWeight = 9223372036854775808 := by kernel_rfl
  have e1 : (negf f / 9223372036854775808 % 2 == 1) = !(f / 9223372036854775808 % 2 == 1) := sgn_neg f hf
  have e2 : negf f % 9223372036854775808 = f % 9223372036854775808 := rung_neg f
  unfold Format.read
  simp only [hs, e1, e2]
  split
  · rfl
  split
  · rfl
  split
  · rfl
  · rfl
theorem add_opp (f : Nat) (hf : f < 18446744073709551616) (h : rung f < 9218868437227405312) : double.add f (negf f) = some 0 := by
  obtain ⟨m, e, hr, _⟩ := read_fin f h
  unfold Format.add
  rw [read_neg f hf, hr]
  show (Datum.sum (.number (sgn f) m (-1074 + e)) (.number (!sgn f) m (-1074 + e))).map double.write = _
  unfold Datum.sum
  dsimp only
  rw [show min ((-1074 : Int) + e) (-1074 + e) = -1074 + e by omega, show ((-1074 : Int) + e - (-1074 + e)).toNat = 0 by omega]
  have ht : signed (sgn f) m 0 + signed (!sgn f) m 0 = 0 := by
    rw [signed_eq, signed_eq]
    cases sgn f <;> simp <;> omega
  rw [ht]
  cases sgn f <;> rfl
theorem word_of (s : Bool) (r : Nat) : double.word s r = if s then 9223372036854775808 + r else r := by
  have hs : double.signWeight = 9223372036854775808 := by kernel_rfl
  unfold Format.word
  rw [hs]
theorem word_back (f : Nat) (hf : f < 18446744073709551616) : double.word (sgn f) (rung f) = f := by
  rw [word_of]
  unfold sgn rung
  have h : f / 9223372036854775808 = 0 ∨ f / 9223372036854775808 = 1 := by omega
  rcases h with h | h
  · rw [h, if_neg (by decide)]; omega
  · rw [h, if_pos (by decide)]; omega
theorem cut_zero (s : Bool) (n : Nat) : Toward.even.cut s n 0 = n := by
  unfold Toward.cut
  simp
  omega
theorem cut_exact (s : Bool) (q k : Nat) (h : k ≤ (q * 2 ^ k).log2 + 2) : Toward.even.cut s (q * 2 ^ k) k = q := by
  have hp : 0 < 2 ^ k := Nat.pow_pos (by omega)
  have hne : (2 ^ k == 0) = false := beq_eq_false_iff_ne.2 (by omega)
  unfold Toward.cut
  simp only [Nat.min_eq_left h, Nat.one_shiftLeft, Nat.mul_div_cancel _ hp, Nat.mul_mod_left, Nat.mul_zero, hne, Nat.not_lt_zero, decide_false, Bool.false_and, Bool.or_false, Bool.toNat_false, Nat.add_zero]
theorem log_of (q k : Nat) (h1 : 4503599627370496 ≤ q) (h2 : q < 9007199254740992) : (q * 2 ^ k).log2 = 52 + k := by
  have hp : 0 < 2 ^ k := Nat.pow_pos (by omega)
  have h0 : q * 2 ^ k ≠ 0 := Nat.pos_iff_ne_zero.1 (Nat.mul_pos (by omega) hp)
  apply (Nat.log2_eq_iff h0).2
  constructor
  · rw [Nat.pow_add]
    exact Nat.mul_le_mul_right _ h1
  · rw [show 52 + k + 1 = 53 + k by omega, Nat.pow_add]
    exact Nat.mul_lt_mul_of_pos_right h2 hp
theorem near (s : Bool) (mag : Nat) (last : Int) (hm : ¬ mag = 0) (hl : max ((-1074 : Int) + (mag.log2 : Int) - ((52 : Nat) : Int)) (-1074) = last) (q : Nat) (hc : Toward.even.cut s (mag <<< ((-1074 : Int) - last).toNat) (last - -1074).toNat = q) :
    double.nearest s mag (-1074) = double.word s (min ((last - -1074).toNat * 4503599627370496 + q) 9218868437227405312) := by
  have hb : double.binade = 4503599627370496 := by kernel_rfl
  have hi : double.infRung = 9218868437227405312 := by kernel_rfl
  have hl' : double.leastPlace = -1074 := by kernel_rfl
  have hf : double.fractionBits = 52 := rfl
  unfold Format.nearest
  rw [if_neg hm, hb, hi, hl', hf, hl]
  dsimp only
  rw [hc]
theorem nearest_mg (s : Bool) (r : Nat) (h : r < 9218868437227405312) : double.nearest s (mg r) (-1074) = double.word s r := by
  by_cases h0 : r = 0
  · subst h0
    unfold Format.nearest
    rw [if_pos mg_zero]
  have hm : 0 < mg r := Nat.lt_of_le_of_lt (Nat.zero_le (mg 0)) (mg_lt (by omega))
  by_cases h1 : r < 4503599627370496
  · have e : mg r = r := by unfold mg; rw [if_pos h1]
    rw [e] at hm ⊢
    have hlog : r.log2 < 52 := (Nat.log2_lt (by omega)).2 h1
    rw [near s r (-1074) (by omega) (by omega) r (by
      rw [show ((-1074 : Int) - -1074).toNat = 0 by omega, Nat.shiftLeft_zero, cut_zero])]
    rw [show min (((-1074 : Int) - -1074).toNat * 4503599627370496 + r) 9218868437227405312 = r by omega]
  · have e : mg r = (4503599627370496 + r % 4503599627370496) * 2 ^ (r / 4503599627370496 - 1) := by unfold mg; rw [if_neg h1]
    generalize hk : r / 4503599627370496 - 1 = k at e
    generalize hq : 4503599627370496 + r % 4503599627370496 = q at e
    have hq1 : 4503599627370496 ≤ q := by omega
    have hq2 : q < 9007199254740992 := by omega
    have hr : k * 4503599627370496 + q = r := by omega
    have hlog := log_of q k hq1 hq2
    rw [e] at hm ⊢
    rw [near s (q * 2 ^ k) (-1074 + k) (by omega) (by rw [hlog]; omega) q (by
      rw [show ((-1074 : Int) - (-1074 + k)).toNat = 0 by omega, show ((-1074 : Int) + k - -1074).toNat = k by omega, Nat.shiftLeft_zero]
      exact cut_exact s q k (by rw [hlog]; omega))]
    rw [show min (((-1074 : Int) + k - -1074).toNat * 4503599627370496 + q) 9218868437227405312 = r by omega]
theorem add_mnought (f : Nat) (hf : f < 18446744073709551616) (h : isNaN f = false) : double.add f 9223372036854775808 = some f := by
  have hr := rung_lt h
  have h0 : double.read 9223372036854775808 = .number true 0 (-1074) := by kernel_rfl
  unfold Format.add
  rw [h0]
  rcases Nat.lt_or_ge (rung f) 9218868437227405312 with hfin | hinf
  · obtain ⟨m, e, hrd, hm⟩ := read_fin f hfin
    rw [hrd]
    unfold Datum.sum
    dsimp only
    rw [show min ((-1074 : Int) + e) (-1074) = -1074 by omega, show ((-1074 : Int) + e - -1074).toNat = e by omega, show ((-1074 : Int) - -1074).toNat = 0 by omega]
    rw [signed_eq, signed_eq, hm]
    have hz : (if true = true then -((0 * 2 ^ 0 : Nat) : Int) else ((0 * 2 ^ 0 : Nat) : Int)) = 0 := by simp
    rw [hz, Int.add_zero]
    have hsg : (if (if sgn f = true then -((mg (rung f) : Nat) : Int) else ((mg (rung f) : Nat) : Int)) = 0 then sgn f && true else decide ((if sgn f = true then -((mg (rung f) : Nat) : Int) else ((mg (rung f) : Nat) : Int)) < 0)) = sgn f := by
      cases hs : sgn f
      · simp
      · by_cases hz : mg (rung f) = 0
        · simp [hz]
        · simp [hz]; omega
    have hab : (if sgn f = true then -((mg (rung f) : Nat) : Int) else ((mg (rung f) : Nat) : Int)).natAbs = mg (rung f) := by
      cases sgn f <;> simp
    rw [hsg, hab]
    show some (double.nearest (sgn f) (mg (rung f)) (-1074)) = _
    rw [nearest_mg _ _ hfin, word_back f hf]
  · rw [read_inf f (by omega)]
    show some (double.word (sgn f) double.infRung) = _
    have hi : double.infRung = rung f := by
      have : double.infRung = 9218868437227405312 := by kernel_rfl
      omega
    rw [hi, word_back f hf]
theorem nearest_num (n : Int) : isNaN (FloatKind.f64.nearest n) = false ∧ FloatKind.f64.nearest n < 18446744073709551616 := by
  have key : ∀ s r, r ≤ 9218868437227405312 → isNaN (double.word s r) = false ∧ double.word s r < 18446744073709551616 := by
    intro s r hr
    rw [word_of]
    unfold isNaN rung
    cases s
    · rw [if_neg (by simp)]
      exact ⟨decide_eq_false (by omega), by omega⟩
    · rw [if_pos rfl]
      exact ⟨decide_eq_false (by omega), by omega⟩
  have hi : double.infRung = 9218868437227405312 := by kernel_rfl
  show isNaN (double.nearest _ _ _) = false ∧ double.nearest _ _ _ < _
  unfold Format.nearest
  split
  · exact key _ _ (by omega)
  · exact key _ _ (by rw [hi]; exact Nat.min_le_right _ _)
end Val
end Go.Proofs.YtnlmilcfmalodaaDoor
