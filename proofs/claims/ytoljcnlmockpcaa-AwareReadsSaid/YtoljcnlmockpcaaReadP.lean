/- Plain: what was written is read back: numbers, fixed numbers. -/
import Derived.Test.YtoljcnlmockpcaaRead5
namespace Go.Proofs.Ytoljcnlmockpcaa
set_option maxRecDepth 100000
namespace Wire
open Go Go.RowKit Sx
theorem rdU_uvarint (most : Nat) (more : List UInt8) : ∀ (m i n : Nat), i ≤ 9 → m * 2 ^ (7 * i) < 18446744073709551616 → n + m * 2 ^ (7 * i) ≤ most → (0 < i → 0 < m) → rdU most i n (Lib.uvarint m ++ more) = some (n + m * 2 ^ (7 * i), more) := by
  intro m
  induction m using Nat.strongRecOn with
  | ind m ih =>
  intro i n hi hm hmo h0
  have hmi : m ≤ m * 2 ^ (7 * i) := Nat.le_mul_of_pos_right _ (Nat.two_pow_pos _)
  have h9 : i = 9 → m ≤ 1 := by
    rintro rfl
    rw [show (2 : Nat) ^ (7 * 9) = 9223372036854775808 by decide] at hm
    omega
  by_cases hb : m < 128
  · rw [Lib.uvarint_small hb, List.cons_append, List.nil_append, rdU]
    have e : m.toUInt8.toNat = m := by simp; omega
    have e2 : m % 128 = m := by omega
    rw [e, e2, if_neg (by omega), if_neg (by omega), if_neg (by omega), if_neg (by omega)]
  · rw [Lib.uvarint_big (by omega), List.cons_append, rdU]
    have e : (m % 128 + 128).toUInt8.toNat = m % 128 + 128 := by simp; omega
    rw [e, if_neg (by omega), if_pos (by omega)]
    have hp : 2 ^ (7 * (i + 1)) = 128 * 2 ^ (7 * i) := by rw [Nat.mul_succ, Nat.pow_add, Nat.mul_comm]
    have hq : m / 128 * 2 ^ (7 * (i + 1)) + m % 128 * 2 ^ (7 * i) = m * 2 ^ (7 * i) := by
      rw [hp, ← Nat.mul_assoc, ← Nat.add_mul]
      congr 1
      omega
    have e3 : (m % 128 + 128) % 128 = m % 128 := by omega
    rw [e3]
    have := ih (m / 128) (by omega) (i + 1) (n + m % 128 * 2 ^ (7 * i)) (by omega) (by omega) (by omega) (fun _ => by omega)
    rw [this]
    congr 2
    omega
theorem mUint_uvarint (most m : Nat) (more : List UInt8) (h : m ≤ most) (hm : m < 18446744073709551616) : mUint most (some (Lib.uvarint m ++ more)) = (m, some more) := by
  have := rdU_uvarint most more m 0 0 (by omega) (by simpa using hm) (by simpa using h) (by omega)
  unfold mUint
  show (match rdU most 0 0 (Lib.uvarint m ++ more) with | some (n, l) => (n, some l) | none => (0, none)) = _
  rw [this]
  simp
theorem mText_uvarint (most : Nat) (t more : List UInt8) (h : t.length ≤ most) (hm : t.length < 18446744073709551616) : mText most (some (Lib.uvarint t.length ++ t ++ more)) = (t, some more) := by
  have := rdU_uvarint most (t ++ more) t.length 0 0 (by omega) (by simpa using hm) (by simpa using h) (by omega)
  unfold mText
  rw [List.append_assoc]
  show (match rdU most 0 0 (Lib.uvarint t.length ++ (t ++ more)) with | some (n, l) => if n ≤ l.length then (l.take n, some (l.drop n)) else ([], none) | none => ([], none)) = _
  rw [this]
  simp
theorem fold8_fixN (n : Nat) (hn : n < 18446744073709551616) : ∀ k, k ≤ 8 → fold8 (fixN k n) (n / 256 ^ k) = n
  | 0, _ => by simp [fixN, fold8]
  | k + 1, hk => by
    have e1 : n / 256 ^ (k + 1) = n / 256 ^ k / 256 := by rw [Nat.pow_succ, Nat.div_div_eq_div_mul]
    have hle : n / 256 ^ k ≤ n := Nat.div_le_self _ _
    have e2 : (n / 256 ^ k % 256).toUInt8.toNat = n / 256 ^ k % 256 := by simp
    have ih := fold8_fixN n hn k (by omega)
    unfold fixN fold8
    rw [List.foldl_cons, e1, e2]
    have e3 : n / 256 ^ k / 256 % 72057594037927936 * 256 + n / 256 ^ k % 256 = n / 256 ^ k := by
      clear ih e1 e2
      generalize n / 256 ^ k = q at *
      omega
    rw [e3]
    exact ih
theorem fixN_take (k n : Nat) (more : List UInt8) : (fixN k n ++ more).take k = fixN k n ∧ (fixN k n ++ more).drop k = more := by
  have := fixN_length k n
  constructor
  · rw [List.take_append_of_le_length (by omega), List.take_of_length_le (by omega)]
  · rw [List.drop_append_of_le_length (by omega), List.drop_of_length_le (by omega)]
    rfl
theorem mFixed_fixN (n : Nat) (hn : n < 18446744073709551616) (more : List UInt8) : mFixed (some (fixN 8 n ++ more)) = (n, some more) := by
  have h := fixN_take 8 n more
  have hl := fixN_length 8 n
  have h8 := fold8_fixN n hn 8 (by omega)
  have h0 : n / 256 ^ 8 = 0 := by omega
  rw [h0] at h8
  unfold mFixed
  show (if 8 ≤ (fixN 8 n ++ more).length then (fold8 ((fixN 8 n ++ more).take 8) 0, some ((fixN 8 n ++ more).drop 8)) else (0, none)) = _
  rw [if_pos (by rw [List.length_append]; omega), h.1, h.2, h8]
/-- Int's number. -/
def unzig (n : Nat) : Int := if n % 2 = 0 then ((n / 2 : Nat) : Int) else -((n / 2 : Nat) : Int) - 1
def mInt (s : Option (List UInt8)) : Int × Option (List UInt8) := (unzig (mUint 18446744073709551615 s).1, (mUint 18446744073709551615 s).2)
theorem unzig_zigzag (x : Int) : unzig (Lib.zigzag x) = x := by
  unfold unzig Lib.zigzag
  split <;> split <;> omega
end Wire
end Go.Proofs.Ytoljcnlmockpcaa
