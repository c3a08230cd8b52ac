/- Names of a log's files, plainly: how they are split, and that they differ. -/
import Derived.Lib.SplitLaws
import Derived.Lib.IndexBytes
import Derived.Lib.ItoaMem
import Derived.Lib.ItoaLen
import Derived.Lib.ParseIntBCases
import Derived.Lib.CountLaws
namespace Go.Proofs.YtfocnbmihcnaoaaGreatDoor
set_option maxRecDepth 100000
namespace Wa
open Go
abbrev bs (l : List UInt8) : ByteArray := ⟨l.toArray⟩
theorem bs_inj {a b : List UInt8} (h : bs a = bs b) : a = b := by simpa using congrArg (fun x : ByteArray => x.data.toList) h
theorem of_data {b : ByteArray} {l : List UInt8} (h : b.data.toList = l) : b = bs l := by
  rw [← h]
theorem bs_data (l : List UInt8) : (bs l).data.toList = l := rfl
def dot : ByteArray := ⟨#[46]⟩
/-- A segment's name. -/
def nmL (m : List UInt8) (a i : Nat) : List UInt8 := m ++ 46 :: (Lib.decDigits a ++ 46 :: Lib.decDigits i)
def nm (m : List UInt8) (a i : Nat) : ByteArray := bs (nmL m a i)
/-- The name of a new beginning that is being made. -/
def fresh (m : List UInt8) : ByteArray := bs (m ++ [126])
theorem ofNat_toNat {k : Nat} (h : k < 10) : (UInt8.ofNat (48 + k)).toNat = 48 + k := by
  rw [UInt8.toNat_ofNat']
  omega
theorem dig : ∀ (u : Nat), ∀ x ∈ Lib.decDigits u, 48 ≤ x.toNat ∧ x.toNat ≤ 57 := by
  intro u
  induction u using Nat.strongRecOn with
  | ind u ih =>
    intro x hx
    rw [Lib.decDigits] at hx
    split at hx
    · rename_i h
      rw [List.mem_singleton.1 hx, ofNat_toNat h]
      omega
    · rename_i h
      rcases List.mem_append.1 hx with hx | hx
      · exact ih (u / 10) (by omega) x hx
      · rw [List.mem_singleton.1 hx, ofNat_toNat (Nat.mod_lt _ (by decide))]
        have := Nat.mod_lt u (show 0 < 10 by decide)
        omega
theorem no_dot (u : Nat) : (46 : UInt8) ∉ Lib.decDigits u := fun h => by
  have := (dig u _ h).1
  exact absurd this (by decide)
theorem no_wave (u : Nat) : (126 : UInt8) ∉ Lib.decDigits u := fun h => by
  have := (dig u _ h).2
  exact absurd this (by decide)
/-- What digits spell. -/
theorem parse_dec {M : Nat} : ∀ (u acc : Nat) (r : List UInt8), (∀ k, acc * 10 ^ (Lib.decDigits u).length + u ≤ k → k ≤ M → True) → acc * 10 ^ (Lib.decDigits u).length + u ≤ M → M ≤ 18446744073709551615 → Lib.parseUintM M acc (Lib.decDigits u ++ r) = Lib.parseUintM M (acc * 10 ^ (Lib.decDigits u).length + u) r := by
  intro u
  induction u using Nat.strongRecOn with
  | ind u ih =>
    intro acc r _ hM hM2
    by_cases h : u < 10
    · rw [Lib.decDigits_one h, List.length_singleton, Nat.pow_one] at hM ⊢
      rw [List.singleton_append]
      conv => lhs; unfold Lib.parseUintM
      rw [ofNat_toNat h, if_pos (by omega), if_neg (by omega), if_neg (by omega)]
      rw [show acc * 10 + (48 + u - 48) = acc * 10 + u by omega]
    · have e : Lib.decDigits u = Lib.decDigits (u / 10) ++ [UInt8.ofNat (48 + u % 10)] := by
        rw [Lib.decDigits, dif_neg h]
      rw [e, List.length_append, List.length_singleton, Nat.pow_succ] at hM ⊢
      have hd := Nat.mod_lt u (show 0 < 10 by decide)
      have e2 : acc * (10 ^ (Lib.decDigits (u / 10)).length * 10) + u = (acc * 10 ^ (Lib.decDigits (u / 10)).length + u / 10) * 10 + u % 10 := by
        rw [Nat.add_mul, ← Nat.mul_assoc]
        omega
      rw [e2] at hM ⊢
      rw [List.append_assoc, ih (u / 10) (by omega) acc _ (fun _ _ _ => trivial) (by omega) hM2]
      generalize acc * 10 ^ (Lib.decDigits (u / 10)).length + u / 10 = q at *
      rw [List.singleton_append]
      conv => lhs; unfold Lib.parseUintM
      rw [ofNat_toNat hd, if_pos (by omega), if_neg (by omega), if_neg (by omega)]
      rw [show q * 10 + (48 + u % 10 - 48) = q * 10 + u % 10 by omega]
theorem dec_ne (u : Nat) : Lib.decDigits u ≠ [] := fun h => by
  have := congrArg List.length h
  rw [Lib.decDigits_length, List.length_nil] at this
  have := Lib.nDigits_pos u
  omega
theorem parse_ok (u : Nat) (h : u < 18446744073709551616) : Lib.parseUintB 64 (Lib.decDigits u) = .ok u := by
  unfold Lib.parseUintB
  rw [if_neg (dec_ne u)]
  have := parse_dec (M := 2 ^ 64 - 1) u 0 [] (fun _ _ _ => trivial) (by omega) (by decide)
  rw [List.append_nil, Nat.zero_mul, Nat.zero_add] at this
  rw [this]
  rfl
theorem dec_inj {a b : Nat} (ha : a < 18446744073709551616) (hb : b < 18446744073709551616) (h : Lib.decDigits a = Lib.decDigits b) : a = b := by
  have h1 := parse_ok a ha
  rw [h, parse_ok b hb] at h1
  injection h1 with h1
  exact h1.symm
/-- Two texts with one cut each. -/
theorem cut_inj {c : UInt8} : ∀ {x x' y y' : List UInt8}, c ∉ x → c ∉ x' → x ++ c :: y = x' ++ c :: y' → x = x' ∧ y = y'
  | [], [], _, _, _, _, h => ⟨rfl, (List.cons.inj h).2⟩
  | [], b :: x', _, _, _, h2, h => absurd ((List.cons.inj h).1 ▸ List.mem_cons_self) h2
  | b :: x, [], _, _, h1, _, h => absurd ((List.cons.inj h).1.symm ▸ List.mem_cons_self) h1
  | b :: x, b' :: x', y, y', h1, h2, h => by
    obtain ⟨e1, e2⟩ := List.cons.inj h
    obtain ⟨e3, e4⟩ := cut_inj (fun hm => h1 (List.mem_cons_of_mem _ hm)) (fun hm => h2 (List.mem_cons_of_mem _ hm)) e2
    exact ⟨by rw [e1, e3], e4⟩
theorem nm_inj {m m' : List UInt8} {a i a' i' : Nat} (hm : 46 ∉ m) (hm' : 46 ∉ m') (ha : a < 18446744073709551616) (ha' : a' < 18446744073709551616) (hi : i < 18446744073709551616) (hi' : i' < 18446744073709551616) (h : nm m a i = nm m' a' i') : m = m' ∧ a = a' ∧ i = i' := by
  obtain ⟨e1, e2⟩ := cut_inj hm hm' (bs_inj h)
  obtain ⟨e3, e4⟩ := cut_inj (no_dot a) (no_dot a') e2
  exact ⟨e1, dec_inj ha ha' e3, dec_inj hi hi' e4⟩
theorem nm_fresh {m m' : List UInt8} {a i : Nat} (hm' : 46 ∉ m') : nm m a i ≠ fresh m' := fun h => by
  have e : m ++ 46 :: (Lib.decDigits a ++ 46 :: Lib.decDigits i) = m' ++ [126] := bs_inj h
  have h1 : (46 : UInt8) ∈ m' ++ [126] := by
    rw [← e]
    simp
  rcases List.mem_append.1 h1 with h | h
  · exact hm' h
  · exact absurd (List.mem_singleton.1 h) (by decide)
/-! ### How they are split -/
theorem idx_none : ∀ {l : List UInt8} {c : UInt8}, c ∉ l → Lib.indexByte l c = -1
  | [], _, _ => rfl
  | b :: l, c, h => by
    unfold Lib.indexByte
    rw [if_neg (by simp only [beq_iff_eq]; exact fun e => h (e ▸ List.mem_cons_self)), idx_none (fun hm => h (List.mem_cons_of_mem _ hm))]
    rfl
theorem idx_at : ∀ {l r : List UInt8} {c : UInt8}, c ∉ l → Lib.indexByte (l ++ c :: r) c = (l.length : Int)
  | [], r, c, _ => by
    rw [List.nil_append]
    unfold Lib.indexByte
    rw [if_pos (by simp)]
    rfl
  | b :: l, r, c, h => by
    have ih := idx_at (r := r) (fun hm => h (List.mem_cons_of_mem _ hm) : c ∉ l)
    rw [List.cons_append]
    unfold Lib.indexByte
    rw [if_neg (by simp only [beq_iff_eq]; exact fun e => h (e ▸ List.mem_cons_self)), ih, if_neg (by simp only [beq_iff_eq]; omega), List.length_cons]
    omega
theorem indexB_dot (l : List UInt8) : Lib.indexB (bs l) dot = Lib.indexByte l 46 := Lib.index_one l 46
theorem ext_tail (l r : List UInt8) : (bs (l ++ 46 :: r)).extract (l.length + dot.size) (bs (l ++ 46 :: r)).size = bs r := by
  have e : ((bs (l ++ 46 :: r)).extract (l.length + dot.size) (bs (l ++ 46 :: r)).size).data.toList = r := by
    rw [Lib.extract_to_end, show dot.size = 1 from rfl, bs_data, List.drop_append, List.drop_of_length_le (by omega)]
    simp
  exact of_data e
theorem ext_head (l r : List UInt8) : (bs (l ++ 46 :: r)).extract 0 (l.length + 0) = bs l := by
  have e : ((bs (l ++ 46 :: r)).extract 0 (l.length + 0)).data.toList = l := by
    rw [Lib.extract_from_zero, bs_data]
    simp
  exact of_data e
theorem count_at {l r : List UInt8} (h : 46 ∉ l) : Lib.countB (bs (l ++ 46 :: r)) dot = 1 + Lib.countB (bs r) dot := by
  rw [Lib.countB_hit _ _ l.length (by decide) ((indexB_dot _).trans (idx_at h)), ext_tail]
theorem count_none {l : List UInt8} (h : 46 ∉ l) : Lib.countB (bs l) dot = 0 := Lib.countB_miss _ _ ((indexB_dot _).trans (idx_none h))
theorem split_at' {l r : List UInt8} (h : 46 ∉ l) (k : Nat) : Lib.splitB dot 0 (k + 1) (bs (l ++ 46 :: r)) = bs l :: Lib.splitB dot 0 k (bs r) := by
  rw [Lib.splitB_hit _ _ _ _ l.length ((indexB_dot _).trans (idx_at h)), ext_head, ext_tail]
theorem nm_count {m : List UInt8} (hm : 46 ∉ m) (a i : Nat) : Lib.countB (nm m a i) dot = 2 := by
  unfold nm nmL
  rw [count_at hm, count_at (no_dot a), count_none (no_dot i)]
theorem nm_split {m : List UInt8} (hm : 46 ∉ m) (a i : Nat) : Lib.splitB dot 0 (Lib.countB (nm m a i) dot) (nm m a i) = [bs m, bs (Lib.decDigits a), bs (Lib.decDigits i)] := by
  rw [nm_count hm]
  unfold nm nmL
  rw [split_at' hm, split_at' (no_dot a), Lib.splitB_zero]
theorem fresh_count {m : List UInt8} (hm : 46 ∉ m) : Lib.countB (fresh m) dot = 0 := count_none (by
  intro h
  rcases List.mem_append.1 h with h | h
  · exact hm h
  · exact absurd (List.mem_singleton.1 h) (by decide))
theorem nmL_len {m : List UInt8} {a i : Nat} (ha : a < 10000000) (hi : i < 10000000) : (nmL m a i).length ≤ m.length + 16 := by
  have key : ∀ u, u < 10000000 → (Lib.decDigits u).length ≤ 7 := fun u hu => by
    have step : ∀ k u, u < 10 ^ (k + 1) → (Lib.decDigits u).length ≤ k + 1 := by
      intro k
      induction k with
      | zero =>
        intro u hu
        rw [Lib.decDigits_one (by omega)]
        simp
      | succ k ih =>
        intro u hu
        rw [Lib.decDigits]
        split
        · simp
        · have := ih (u / 10) (by rw [Nat.pow_succ] at hu; omega)
          simp only [List.length_append, List.length_singleton]
          omega
    exact step 6 u hu
  unfold nmL
  have h1 := key a ha
  have h2 := key i hi
  simp only [List.length_append, List.length_cons]
  omega
end Wa
end Go.Proofs.YtfocnbmihcnaoaaGreatDoor
