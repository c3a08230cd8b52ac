/- Plain facts on texts of values: digits of sixteen, decimal digits, quoted bytes. No program in sight. -/
import Derived.Lib.ItoaNum
namespace Go.Proofs.YtglfoofclicfpaaDoor
namespace Hex
open Go
/-- A digit of sixteen. -/
def hd (d : Nat) : UInt8 := if d < 10 then UInt8.ofNat (48 + d) else UInt8.ofNat (87 + d)
/-- The last k digits. -/
def hexN : Nat → Nat → List UInt8
  | 0, _ => []
  | k + 1, u => hexN k (u / 16) ++ [hd (u % 16)]
theorem hexN_length : ∀ k u, (hexN k u).length = k
  | 0, _ => rfl
  | k + 1, u => by simp [hexN, hexN_length k]
theorem hexN_zero : ∀ k, hexN k 0 = List.replicate k 48
  | 0 => rfl
  | k + 1 => by
    rw [hexN, Nat.zero_div, hexN_zero k, List.replicate_succ']
    rfl
theorem hexN_add (k : Nat) : ∀ j u, hexN (k + j) u = hexN k (u / 16 ^ j) ++ hexN j u
  | 0, u => by simp [hexN]
  | j + 1, u => by
    rw [← Nat.add_assoc, hexN, hexN_add k j, hexN, Nat.div_div_eq_div_mul, List.append_assoc, Nat.pow_succ, Nat.mul_comm 16]
theorem hexN_succ' (j u : Nat) : hexN (j + 1) u = hd (u / 16 ^ j % 16) :: hexN j u := by
  rw [Nat.add_comm, hexN_add 1 j]
  rfl
theorem hexN_pad (k j u : Nat) (h : u < 16 ^ j) : hexN (k + j) u = List.replicate k 48 ++ hexN j u := by
  rw [hexN_add, Nat.div_eq_of_lt h, hexN_zero]
theorem hd_inj (a b : Nat) (ha : a < 16) (hb : b < 16) (h : hd a = hd b) : a = b :=
  (by decide : ∀ a : Fin 16, ∀ b : Fin 16, hd a = hd b → a.1 = b.1) ⟨a, ha⟩ ⟨b, hb⟩ h
theorem hexN_inj : ∀ k u v, u < 16 ^ k → v < 16 ^ k → hexN k u = hexN k v → u = v
  | 0, u, v, hu, hv, _ => by simp at hu hv; omega
  | k + 1, u, v, hu, hv, h => by
    rw [hexN, hexN] at h
    obtain ⟨h1, h2⟩ := List.append_inj h (by rw [hexN_length, hexN_length])
    rw [Nat.pow_succ] at hu hv
    have e1 := hexN_inj k _ _ (by omega) (by omega) h1
    have e2 := hd_inj _ _ (Nat.mod_lt _ (by omega)) (Nat.mod_lt _ (by omega)) (List.singleton_inj.1 h2)
    omega
theorem dec_ne_nil (u : Nat) : Lib.decDigits u ≠ [] := by
  rw [Lib.decDigits]
  split <;> simp
theorem dec_head : ∀ u, ∃ d t, d < 10 ∧ Lib.decDigits u = UInt8.ofNat (48 + d) :: t := by
  intro u
  induction u using Nat.strongRecOn with
  | ind u ih =>
    rw [Lib.decDigits]
    by_cases h : u < 10
    · rw [dif_pos h]; exact ⟨u, [], h, rfl⟩
    · rw [dif_neg h]
      obtain ⟨d, t, hd, e⟩ := ih (u / 10) (by omega)
      exact ⟨d, t ++ [UInt8.ofNat (48 + u % 10)], hd, by rw [e]; rfl⟩
theorem ofNat48_inj (a b : Nat) (ha : a < 10) (hb : b < 10) (h : UInt8.ofNat (48 + a) = UInt8.ofNat (48 + b)) : a = b :=
  (by decide : ∀ a : Fin 10, ∀ b : Fin 10, UInt8.ofNat (48 + a.1) = UInt8.ofNat (48 + b.1) → a.1 = b.1) ⟨a, ha⟩ ⟨b, hb⟩ h
theorem dec_inj : ∀ u v, Lib.decDigits u = Lib.decDigits v → u = v := by
  intro u
  induction u using Nat.strongRecOn with
  | ind u ih =>
    intro v h
    rw [Lib.decDigits, Lib.decDigits.eq_1 v] at h
    by_cases hu : u < 10 <;> by_cases hv : v < 10
    · rw [dif_pos hu, dif_pos hv] at h
      exact ofNat48_inj _ _ hu hv (List.singleton_inj.1 h)
    · rw [dif_pos hu, dif_neg hv] at h
      have e1 := congrArg List.length h
      have e2 := List.length_pos_iff.2 (dec_ne_nil (v / 10))
      simp only [List.length_append, List.length_cons, List.length_nil] at e1
      omega
    · rw [dif_neg hu, dif_pos hv] at h
      have e1 := congrArg List.length h
      have e2 := List.length_pos_iff.2 (dec_ne_nil (u / 10))
      simp only [List.length_append, List.length_cons, List.length_nil] at e1
      omega
    · rw [dif_neg hu, dif_neg hv] at h
      obtain ⟨h1, h2⟩ := List.append_inj' h rfl
      have e1 := ih (u / 10) (by omega) _ h1
      have e2 := ofNat48_inj _ _ (Nat.mod_lt _ (by omega)) (Nat.mod_lt _ (by omega)) (List.singleton_inj.1 h2)
      omega
theorem digit_ne (d : Nat) (hd : d < 10) : ∀ x ∈ [(110 : UInt8), 116, 102, 34, 109, 45], UInt8.ofNat (48 + d) ≠ x :=
  (by decide : ∀ d : Fin 10, ∀ x ∈ [(110 : UInt8), 116, 102, 34, 109, 45], UInt8.ofNat (48 + d.1) ≠ x) ⟨d, hd⟩
theorem itoa_inj (a b : Int) (h : Lib.itoa a = Lib.itoa b) : a = b := by
  unfold Lib.itoa at h
  by_cases ha : a < 0 <;> by_cases hb : b < 0
  · rw [if_pos ha, if_pos hb] at h
    have := dec_inj _ _ (List.cons.inj h).2
    omega
  · rw [if_pos ha, if_neg hb] at h
    obtain ⟨d, t, hd, e⟩ := dec_head b.toNat
    rw [e] at h
    exact absurd (List.cons.inj h).1.symm (digit_ne d hd 45 (by simp))
  · rw [if_neg ha, if_pos hb] at h
    obtain ⟨d, t, hd, e⟩ := dec_head a.toNat
    rw [e] at h
    exact absurd (List.cons.inj h).1 (digit_ne d hd 45 (by simp))
  · rw [if_neg ha, if_neg hb] at h
    have := dec_inj _ _ h
    omega
theorem itoa_head (a : Int) : ∃ x t, Lib.itoa a = x :: t ∧ x ∉ [(110 : UInt8), 116, 102, 34, 109] := by
  unfold Lib.itoa
  by_cases h : a < 0
  · rw [if_pos h]; exact ⟨_, _, rfl, by decide⟩
  · rw [if_neg h]
    obtain ⟨d, t, hd, e⟩ := dec_head a.toNat
    refine ⟨_, _, e, fun hm => digit_ne d hd _ ?_ rfl⟩
    simp only [List.mem_cons, List.not_mem_nil, or_false] at hm ⊢
    rcases hm with h | h | h | h | h <;> simp [h]
/-- A byte of a quoted text. -/
def qb (c : UInt8) : List UInt8 := if c = 34 ∨ c = 92 then [92, c] else [c]
def qbs : List UInt8 → List UInt8
  | [] => []
  | c :: l => qb c ++ qbs l
theorem qbs_append : ∀ a b, qbs (a ++ b) = qbs a ++ qbs b
  | [], b => rfl
  | c :: a, b => by simp [qbs, qbs_append a b]
theorem qbs_length : ∀ l, (qbs l).length ≤ 2 * l.length
  | [] => by simp [qbs]
  | c :: l => by
    have := qbs_length l
    have h : (qb c).length ≤ 2 := by unfold qb; split <;> simp
    simp [qbs]
    omega
theorem qbs_inj : ∀ a b, qbs a = qbs b → a = b
  | [], [], _ => rfl
  | [], c :: b, h => by simp [qbs, qb] at h; split at h <;> simp at h
  | c :: a, [], h => by simp [qbs, qb] at h; split at h <;> simp at h
  | c :: a, d :: b, h => by
    simp only [qbs, qb] at h
    by_cases hc : c = 34 ∨ c = 92 <;> by_cases hd : d = 34 ∨ d = 92
    · rw [if_pos hc, if_pos hd] at h
      simp only [List.cons_append, List.nil_append, List.cons.injEq, true_and] at h
      rw [h.1, qbs_inj a b h.2]
    · rw [if_pos hc, if_neg hd] at h
      simp only [List.cons_append, List.nil_append, List.cons.injEq] at h
      exact absurd (.inr h.1.symm) hd
    · rw [if_neg hc, if_pos hd] at h
      simp only [List.cons_append, List.nil_append, List.cons.injEq] at h
      exact absurd (.inr h.1) hc
    · rw [if_neg hc, if_neg hd] at h
      simp only [List.cons_append, List.nil_append, List.cons.injEq] at h
      rw [h.1, qbs_inj a b h.2]
def quote (l : List UInt8) : List UInt8 := 34 :: (qbs l ++ [34])
theorem quote_inj (a b : List UInt8) (h : quote a = quote b) : a = b := by
  unfold quote at h
  exact qbs_inj _ _ (List.append_inj' (List.cons.inj h).2 rfl).1
end Hex
end Go.Proofs.YtglfoofclicfpaaDoor
