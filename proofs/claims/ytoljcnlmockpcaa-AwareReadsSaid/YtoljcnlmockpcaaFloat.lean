/- Plain facts on float64 words: their order is that of their signed rungs. No program. -/
import Derived.Laws.FloatArith
namespace Go.Proofs.Ytoljcnlmockpcaa
namespace Fl
open Go Ieee

/-- The rung of a word, its sign, its key in the order. -/
def rung (b : Nat) : Nat := b % 9223372036854775808
def sgn (b : Nat) : Bool := b / 9223372036854775808 % 2 == 1
def sk (b : Nat) : Int := if sgn b then -(rung b : Int) else (rung b : Int)
def isNaN (b : Nat) : Bool := decide (9218868437227405312 < rung b)
/-- What a rung stands for, in units of the least place. -/
def mg (r : Nat) : Nat := if r < 4503599627370496 then r else (4503599627370496 + r % 4503599627370496) * 2 ^ (r / 4503599627370496 - 1)
theorem mg_zero : mg 0 = 0 := rfl
theorem mg_lt {a b : Nat} (h : a < b) : mg a < mg b := by
  unfold mg
  by_cases hb : b < 4503599627370496
  · rw [if_pos (by omega), if_pos hb]; exact h
  · rw [if_neg hb]
    have hp : ∀ n : Nat, 0 < 2 ^ n := fun n => Nat.pos_of_ne_zero (by simp)
    by_cases ha : a < 4503599627370496
    · rw [if_pos ha]
      have := hp (b / 4503599627370496 - 1)
      have h2 : (4503599627370496 + b % 4503599627370496) * 1 ≤ (4503599627370496 + b % 4503599627370496) * 2 ^ (b / 4503599627370496 - 1) := Nat.mul_le_mul_left _ this
      omega
    · rw [if_neg ha]
      have hab : a / 4503599627370496 ≤ b / 4503599627370496 := Nat.div_le_div_right (by omega)
      by_cases he : a / 4503599627370496 = b / 4503599627370496
      · rw [he]
        exact Nat.mul_lt_mul_of_pos_right (by omega) (hp _)
      · have h1 : (4503599627370496 + a % 4503599627370496) * 2 ^ (a / 4503599627370496 - 1) < (2 * 4503599627370496) * 2 ^ (a / 4503599627370496 - 1) := Nat.mul_lt_mul_of_pos_right (by omega) (hp _)
        have h2 : (2 * 4503599627370496) * 2 ^ (a / 4503599627370496 - 1) = 4503599627370496 * 2 ^ (a / 4503599627370496) := by
          obtain ⟨e, h⟩ : ∃ e, a / 4503599627370496 = e + 1 := ⟨a / 4503599627370496 - 1, by omega⟩
          rw [h, Nat.add_sub_cancel, Nat.pow_succ]
          omega
        have h3 : 2 ^ (a / 4503599627370496) ≤ 2 ^ (b / 4503599627370496 - 1) := Nat.pow_le_pow_right (by omega) (by omega)
        have h4 : 4503599627370496 * 2 ^ (a / 4503599627370496) ≤ (4503599627370496 + b % 4503599627370496) * 2 ^ (b / 4503599627370496 - 1) := Nat.mul_le_mul (by omega) h3
        omega
theorem mg_le {a b : Nat} (h : a ≤ b) : mg a ≤ mg b := by
  rcases Nat.lt_or_ge a b with h' | h'
  · exact Nat.le_of_lt (mg_lt h')
  · rw [show a = b by omega]; exact Nat.le_refl _

/-- A finite word's datum. -/
theorem read_fin (b : Nat) (h : rung b < 9218868437227405312) : ∃ (m : Nat) (e : Nat), double.read b = .number (sgn b) m (-1074 + e) ∧ m * 2 ^ e = mg (rung b) := by
  have hs : double.signWeight = 9223372036854775808 := by kernel_rfl
  have hb : double.binade = 4503599627370496 := by kernel_rfl
  have hi : double.infRung = 9218868437227405312 := by kernel_rfl
  have hl : double.leastPlace = -1074 := by kernel_rfl
  unfold Format.read
  simp only [hs, hb, hi, hl]
  show ∃ m e, (if rung b < 4503599627370496 then Datum.number (sgn b) (rung b) (-1074) else if rung b < 9218868437227405312 then Datum.number (sgn b) (4503599627370496 + rung b % 4503599627370496) (-1074 + ((rung b / 4503599627370496 - 1 : Nat) : Int)) else _) = _ ∧ _
  by_cases h1 : rung b < 4503599627370496
  · rw [if_pos h1]
    exact ⟨rung b, 0, rfl, by unfold mg; rw [if_pos h1]; simp⟩
  · rw [if_neg h1, if_pos h]
    exact ⟨_, rung b / 4503599627370496 - 1, rfl, by unfold mg; rw [if_neg h1]⟩
theorem read_inf (b : Nat) (h : rung b = 9218868437227405312) : double.read b = .infinity (sgn b) := by
  have hs : double.signWeight = 9223372036854775808 := by kernel_rfl
  have hb : double.binade = 4503599627370496 := by kernel_rfl
  have hi : double.infRung = 9218868437227405312 := by kernel_rfl
  unfold Format.read
  simp only [hs, hb, hi]
  show (if rung b < 4503599627370496 then _ else if rung b < 9218868437227405312 then _ else if rung b = 9218868437227405312 then Datum.infinity (sgn b) else _) = _
  rw [if_neg (by omega), if_neg (by omega), if_pos h]
theorem read_nan (b : Nat) (h : 9218868437227405312 < rung b) : double.read b = .nan (sgn b) (rung b - 9218868437227405312) := by
  have hs : double.signWeight = 9223372036854775808 := by kernel_rfl
  have hb : double.binade = 4503599627370496 := by kernel_rfl
  have hi : double.infRung = 9218868437227405312 := by kernel_rfl
  unfold Format.read
  simp only [hs, hb, hi]
  show (if rung b < 4503599627370496 then _ else if rung b < 9218868437227405312 then _ else if rung b = 9218868437227405312 then _ else Datum.nan (sgn b) (rung b - 9218868437227405312)) = _
  rw [if_neg (by omega), if_neg (by omega), if_neg (by omega)]

theorem cmp_lt {a b : Int} (h : a < b) : compare a b = .lt := by
  show compareOfLessAndEq a b = .lt
  unfold compareOfLessAndEq
  rw [if_pos h]
theorem cmp_eq {a b : Int} (h : a = b) : compare a b = .eq := by
  show compareOfLessAndEq a b = .eq
  unfold compareOfLessAndEq
  rw [if_neg (by omega), if_pos h]
theorem cmp_gt {a b : Int} (h : b < a) : compare a b = .gt := by
  show compareOfLessAndEq a b = .gt
  unfold compareOfLessAndEq
  rw [if_neg (by omega), if_neg (by omega)]
/-- Two pairs in the same relation are told alike. -/
theorem cmp_of {a b c d : Int} (h1 : a < b ↔ c < d) (h2 : b < a ↔ d < c) : compare a b = compare c d := by
  rcases Int.lt_trichotomy a b with h | h | h
  · rw [cmp_lt h, cmp_lt (h1.1 h)]
  · rw [cmp_eq h, cmp_eq (by omega)]
  · rw [cmp_gt h, cmp_gt (h2.1 h)]
/-- A word's number, in units of the least place. -/
def skm (b : Nat) : Int := if sgn b then -(mg (rung b) : Int) else (mg (rung b) : Int)
theorem skm_sk (x y : Nat) : compare (skm x) (skm y) = compare (sk x) (sk y) := by
  have z0 := mg_zero
  have h1 : ∀ {a b : Nat}, mg a < mg b ↔ a < b := fun {a b} => ⟨fun h => Nat.lt_of_not_le fun g => Nat.lt_irrefl _ (Nat.lt_of_lt_of_le h (mg_le g)), mg_lt⟩
  have hp : ∀ a : Nat, 0 < mg a ↔ 0 < a := fun a => by have := h1 (a := 0) (b := a); rwa [z0] at this
  have a1 := h1 (a := rung x) (b := rung y)
  have a2 := h1 (a := rung y) (b := rung x)
  have p1 := hp (rung x)
  have p2 := hp (rung y)
  unfold skm sk
  refine cmp_of ?_ ?_ <;> cases sgn x <;> cases sgn y <;> simp only [if_true, Bool.false_eq_true, if_false] <;> omega
theorem signed_eq (s : Bool) (m k : Nat) : signed s m k = if s then -((m * 2 ^ k : Nat) : Int) else ((m * 2 ^ k : Nat) : Int) := by
  unfold signed
  rw [Nat.shiftLeft_eq]
theorem fin_order (s t : Bool) (m1 m2 e1 e2 : Nat) : (Datum.number s m1 (-1074 + e1)).order (Datum.number t m2 (-1074 + e2)) = some (compare (if s then -((m1 * 2 ^ e1 : Nat) : Int) else ((m1 * 2 ^ e1 : Nat) : Int)) (if t then -((m2 * 2 ^ e2 : Nat) : Int) else ((m2 * 2 ^ e2 : Nat) : Int))) := by
  simp only [Datum.order, signed_eq]
  congr 1
  have k1 : ((-1074 + (e1 : Int)) - min (-1074 + (e1 : Int)) (-1074 + (e2 : Int))).toNat = e1 - min e1 e2 := by omega
  have k2 : ((-1074 + (e2 : Int)) - min (-1074 + (e1 : Int)) (-1074 + (e2 : Int))).toNat = e2 - min e1 e2 := by omega
  rw [k1, k2]
  have q1 : m1 * 2 ^ e1 = (m1 * 2 ^ (e1 - min e1 e2)) * 2 ^ (min e1 e2) := by
    rw [Nat.mul_assoc, ← Nat.pow_add, show e1 - min e1 e2 + min e1 e2 = e1 by omega]
  have q2 : m2 * 2 ^ e2 = (m2 * 2 ^ (e2 - min e1 e2)) * 2 ^ (min e1 e2) := by
    rw [Nat.mul_assoc, ← Nat.pow_add, show e2 - min e1 e2 + min e1 e2 = e2 by omega]
  rw [q1, q2]
  generalize m1 * 2 ^ (e1 - min e1 e2) = a
  generalize m2 * 2 ^ (e2 - min e1 e2) = b
  have hp : 0 < 2 ^ (min e1 e2) := Nat.pos_of_ne_zero (by simp)
  generalize 2 ^ (min e1 e2) = p at hp
  have r1 : a * p < b * p ↔ a < b := Nat.mul_lt_mul_right hp
  have r2 : b * p < a * p ↔ b < a := Nat.mul_lt_mul_right hp
  have z1 : 0 < a * p ↔ 0 < a := by have := Nat.mul_lt_mul_right (b := 0) (c := a) hp; rwa [Nat.zero_mul] at this
  have z2 : 0 < b * p ↔ 0 < b := by have := Nat.mul_lt_mul_right (b := 0) (c := b) hp; rwa [Nat.zero_mul] at this
  generalize a * p = a' at *
  generalize b * p = b' at *
  refine cmp_of ?_ ?_ <;> cases s <;> cases t <;> simp only [if_true, Bool.false_eq_true, if_false] <;> omega
/-- THE ORDER OF FLOATS is that of their signed rungs. -/
theorem order_eq (x y : Nat) (hx : isNaN x = false) (hy : isNaN y = false) : double.order x y = some (compare (sk x) (sk y)) := by
  have hx' : rung x ≤ 9218868437227405312 := by have := of_decide_eq_false hx; omega
  have hy' : rung y ≤ 9218868437227405312 := by have := of_decide_eq_false hy; omega
  rw [← skm_sk]
  unfold Format.order
  rcases Nat.lt_or_ge (rung x) 9218868437227405312 with fx | fx <;> rcases Nat.lt_or_ge (rung y) 9218868437227405312 with fy | fy
  · obtain ⟨m1, e1, h1, g1⟩ := read_fin x fx
    obtain ⟨m2, e2, h2, g2⟩ := read_fin y fy
    rw [h1, h2, fin_order, g1, g2]
    rfl
  · obtain ⟨m1, e1, h1, g1⟩ := read_fin x fx
    rw [h1, read_inf y (by omega)]
    have := mg_lt (show rung x < rung y by omega)
    simp only [Datum.order]
    unfold skm
    congr 1
    cases hs : sgn x <;> cases ht : sgn y <;> simp only [if_true, Bool.false_eq_true, if_false] <;> first | exact (cmp_lt (by omega)).symm | exact (cmp_gt (by omega)).symm
  · obtain ⟨m2, e2, h2, g2⟩ := read_fin y fy
    rw [h2, read_inf x (by omega)]
    have := mg_lt (show rung y < rung x by omega)
    simp only [Datum.order]
    unfold skm
    congr 1
    cases hs : sgn x <;> cases ht : sgn y <;> simp only [if_true, Bool.false_eq_true, if_false] <;> first | exact (cmp_lt (by omega)).symm | exact (cmp_gt (by omega)).symm
  · rw [read_inf x (by omega), read_inf y (by omega)]
    have e : rung x = rung y := by omega
    have hp : 0 < mg (rung y) := by have := mg_lt (show 0 < rung y by omega); rwa [mg_zero] at this
    simp only [Datum.order]
    unfold skm
    rw [e]
    congr 1
    cases hs : sgn x <;> cases ht : sgn y <;> simp only [if_true, Bool.false_eq_true, if_false] <;> first | (rw [cmp_eq rfl]; rfl) | (rw [cmp_lt (by omega)]; rfl) | (rw [cmp_gt (by omega)]; rfl)
theorem order_nan (x y : Nat) (h : isNaN x = true ∨ isNaN y = true) : double.order x y = none := by
  unfold Format.order
  rcases h with h | h
  · rw [read_nan x (of_decide_eq_true h)]; rfl
  · rw [read_nan y (of_decide_eq_true h)]
    cases double.read x <;> rfl
/-- A sum doesn't ask which comes first. -/
theorem sum_comm (a b : Datum) : a.sum b = b.sum a := by
  cases a <;> cases b <;> try rfl
  · rename_i s m i t n j
    simp only [Datum.sum]
    rw [Int.min_comm i j, Int.add_comm, Bool.and_comm]
  · rename_i s t
    simp only [Datum.sum]
    by_cases h : s = t
    · subst h; rfl
    · rw [if_neg h, if_neg (fun e => h e.symm)]
theorem add_comm (x y : Nat) : double.add x y = double.add y x := by
  unfold Format.add
  rw [sum_comm]
end Fl
end Go.Proofs.Ytoljcnlmockpcaa
