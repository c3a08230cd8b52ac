/- Records, plainly: what a beginning of bytes tells. -/
import Derived.Test.YtfocnbmihcnaoaaGreatDoorWaF
namespace Go.Proofs.YtfocnbmihcnaoaaGreatDoor
set_option maxRecDepth 100000
namespace Wa
open Go Wire
theorem fold8_cons (x : UInt8) (l : List UInt8) (a : Nat) : fold8 (x :: l) a = fold8 l (a % 72057594037927936 * 256 + x.toNat) := rfl
theorem fold8_lt : ∀ (l : List UInt8) (a : Nat), a < 18446744073709551616 → fold8 l a < 18446744073709551616
  | [], _, h => h
  | x :: l, a, _ => by
    rw [fold8_cons]
    have := x.toNat_lt
    exact fold8_lt l _ (by omega)
theorem fold8_high : ∀ (l : List UInt8) (a : Nat), l.length ≤ 8 → a < 256 ^ (8 - l.length) → fold8 l a / 256 ^ l.length = a
  | [], a, _, _ => by simp [fold8]
  | x :: l, a, h8, h => by
    rw [List.length_cons] at h8 h ⊢
    have hx := x.toNat_lt
    have e1 : 256 ^ (8 - l.length) = 256 ^ (8 - (l.length + 1)) * 256 := by
      rw [← Nat.pow_succ]
      congr 1
      omega
    have h7 : 256 ^ (8 - (l.length + 1)) ≤ 256 ^ 7 := Nat.pow_le_pow_right (by decide) (by omega)
    have ha : a < 72057594037927936 := Nat.lt_of_lt_of_le h (Nat.le_trans h7 (by decide))
    rw [fold8_cons, Nat.mod_eq_of_lt ha, Nat.pow_succ, ← Nat.div_div_eq_div_mul, fold8_high l _ (by omega) (by rw [e1]; omega)]
    omega
theorem fold8_app (l k : List UInt8) (a : Nat) : fold8 (l ++ k) a = fold8 k (fold8 l a) := by
  unfold fold8
  rw [List.foldl_append]
theorem fold8_fix (k n : Nat) (hk : k ≤ 8) (hn : n < 256 ^ k) : fold8 (fixN k n) 0 = n := by
  have h8 : 256 ^ k ≤ 256 ^ 8 := Nat.pow_le_pow_right (by decide) hk
  have := fold8_fixN n (Nat.lt_of_lt_of_le hn (Nat.le_trans h8 (by decide))) k hk
  rw [Nat.div_eq_of_lt hn] at this
  exact this
theorem fix_inj {k n m : Nat} (hk : k ≤ 8) (hn : n < 256 ^ k) (hm : m < 256 ^ k) (h : fixN k n = fixN k m) : n = m := by
  rw [← fold8_fix k n hk hn, ← fold8_fix k m hk hm, h]
/-- What the head of bytes tells. -/
def numOf (b : List UInt8) : Nat := fold8 (b.take 8) 0
def lenOf (b : List UInt8) : Nat := fold8 ((b.drop 8).take 8) 0 / 4294967296
theorem numOf_lt (b : List UInt8) : numOf b < 18446744073709551616 := fold8_lt _ _ (by decide)
theorem rec_form (n : Nat) (x : List UInt8) : rec1 n x = fixN 8 n ++ (fixN 4 x.length ++ (fixN 4 (crc (h2 n x)) ++ (fixN 4 (crc (h3 n x ++ x)) ++ x))) := by
  unfold rec1 h4 h3 h2 h1
  simp only [List.append_assoc]
theorem rec_num {n : Nat} {x b : List UInt8} (hn : n < 18446744073709551616) (h : rec1 n x <+: b) : numOf b = n := by
  obtain ⟨t, rfl⟩ := h
  unfold numOf
  rw [rec_form, List.append_assoc, (fixN_take 8 n _).1]
  exact fold8_fix 8 n (by decide) (by omega)
theorem rec_lenOf {n : Nat} {x b : List UInt8} (hx : x.length < 4294967296) (h : rec1 n x <+: b) : lenOf b = x.length := by
  obtain ⟨t, rfl⟩ := h
  unfold lenOf
  have e : ((rec1 n x ++ t).drop 8).take 8 = fixN 4 x.length ++ fixN 4 (crc (h2 n x)) := by
    rw [rec_form, List.append_assoc, (fixN_take 8 n _).2]
    rw [List.append_assoc, List.append_assoc, ← List.append_assoc (fixN 4 x.length)]
    have hl : (fixN 4 x.length ++ fixN 4 (crc (h2 n x))).length = 8 := by rw [List.length_append, fixN_length, fixN_length]
    rw [List.take_append_of_le_length (by omega), List.take_of_length_le (by omega)]
  rw [e, fold8_app, fold8_fix 4 _ (by decide) (by omega)]
  have := fold8_high (fixN 4 (crc (h2 n x))) x.length (by rw [fixN_length]; decide) (by rw [fixN_length]; omega)
  rw [fixN_length] at this
  exact this
theorem rec_size {n : Nat} {x b : List UInt8} (h : rec1 n x <+: b) : 20 + x.length ≤ b.length := by
  have := h.length_le
  rw [rec_len] at this
  exact this
theorem rec_take {n : Nat} {x b : List UInt8} (h : rec1 n x <+: b) : b.take (20 + x.length) = rec1 n x := by
  obtain ⟨t, rfl⟩ := h
  rw [List.take_append_of_le_length (by rw [rec_len]; omega), List.take_of_length_le (by rw [rec_len]; omega)]
theorem take_take {l : List UInt8} {i j : Nat} (h : i ≤ j) : (l.take j).take i = l.take i := by rw [List.take_take, Nat.min_eq_left h]
theorem rec_h2 {n : Nat} {x b : List UInt8} (h : rec1 n x <+: b) : b.take 12 = h2 n x := by
  rw [← take_take (show 12 ≤ 20 + x.length by omega), rec_take h]
  unfold rec1 h4 h3
  rw [List.append_assoc, List.append_assoc, List.take_append_of_le_length (by rw [h2_len]; omega), List.take_of_length_le (by rw [h2_len]; omega)]
theorem rec_h3 {n : Nat} {x b : List UInt8} (h : rec1 n x <+: b) : b.take 16 = h3 n x := by
  rw [← take_take (show 16 ≤ 20 + x.length by omega), rec_take h]
  unfold rec1 h4
  rw [List.append_assoc, List.take_append_of_le_length (by rw [h3_len]; omega), List.take_of_length_le (by rw [h3_len]; omega)]
theorem rec_body {n : Nat} {x b : List UInt8} (h : rec1 n x <+: b) : (b.take (20 + x.length)).drop 20 = x := by
  rw [rec_take h]
  unfold rec1
  rw [List.drop_append_of_le_length (by rw [h4_len]; omega), List.drop_of_length_le (by rw [h4_len]; omega)]
  rfl
theorem rec_uniq {n : Nat} {x y b : List UInt8} (hx : x.length < 4294967296) (hy : y.length < 4294967296) (h : rec1 n x <+: b) (k : rec1 n y <+: b) : x = y := by
  have e : x.length = y.length := (rec_lenOf hx h).symm.trans (rec_lenOf hy k)
  rw [← rec_body h, ← rec_body k, e]
/-- Is there a record ahead, with that number? -/
def Rec (n : Nat) (b x : List UInt8) : Prop := x.length ≤ 1048576 ∧ rec1 n x <+: b
theorem Rec.uniq {n : Nat} {b x y : List UInt8} (h : Rec n b x) (k : Rec n b y) : x = y := rec_uniq (by have := h.1; omega) (by have := k.1; omega) h.2 k.2
end Wa
end Go.Proofs.YtfocnbmihcnaoaaGreatDoor
