/- Plain: unlike values have unlike texts and bytes. -/
import Derived.Test.YtnlmilcfmalodaaDoorVWrite
import Derived.Test.YtnlmilcfmalodaaDoorOrder
namespace Go.Proofs.YtnlmilcfmalodaaDoor
namespace Val
open Go Go.RowKit Sx Fl Hex Wire
/-- Two values that are one. -/
def Same (x y : Vl) : Prop := x.k = y.k ∧ x.n = y.n ∧ nbits x.f = nbits y.f ∧ x.s = y.s
theorem cmpI_zero (a b : Int) : cmpI a b = 0 ↔ a = b := by
  unfold cmpI
  split
  · omega
  · split <;> omega
theorem cmpS_zero (s t : ByteArray) : cmpS s t = 0 ↔ s = t := by
  unfold cmpS
  rw [cmpB_eq]
  constructor
  · intro h
    cases s; cases t
    simp at h
    rw [h]
  · intro h; rw [h]
theorem K_nbits {f g : Nat} (hf : f < 18446744073709551616) (hg : g < 18446744073709551616) : K f = K g ↔ nbits f = nbits g := by
  unfold nbits
  cases nf : isNaN f <;> cases ng : isNaN g
  · rw [if_neg (by simp), if_neg (by simp), K_num nf, K_num ng]
    unfold sgn rung
    constructor
    · intro h
      by_cases h1 : f / 9223372036854775808 % 2 = 1 <;> by_cases h2 : g / 9223372036854775808 % 2 = 1 <;> simp only [h1, h2, beq_self_eq_true, if_true, beq_iff_eq, if_false] at h <;> omega
    · intro h; rw [h]
  · rw [if_neg (by simp), if_pos rfl, K_nan ng]
    have := K_lt_nan nf
    constructor
    · intro h; omega
    · intro h; subst h; exact absurd nf (by decide)
  · rw [if_pos rfl, if_neg (by simp), K_nan nf]
    have := K_lt_nan ng
    constructor
    · intro h; omega
    · intro h; subst h; exact absurd ng (by decide)
  · rw [if_pos rfl, if_pos rfl, K_nan nf, K_nan ng]
    simp
theorem cmpV_zero {x y : Vl} (hx : x.f < 18446744073709551616) (hy : y.f < 18446744073709551616) : cmpV x y = 0 ↔ Same x y := by
  rw [cmpV_eq]
  unfold Same
  rw [← K_nbits hx hy, ← cmpI_zero x.k y.k, ← cmpI_zero x.n y.n, ← cmpI_zero (K x.f) (K y.f), ← cmpS_zero x.s y.s]
  split
  · rename_i h; exact ⟨fun e => absurd e h, fun e => absurd e.1 h⟩
  rename_i h0
  split
  · rename_i h; exact ⟨fun e => absurd e h, fun e => absurd e.2.1 h⟩
  rename_i h1
  split
  · rename_i h; exact ⟨fun e => absurd e h, fun e => absurd e.2.2.1 h⟩
  rename_i h2
  exact ⟨fun e => ⟨by omega, by omega, by omega, e⟩, fun e => e.2.2.2⟩
theorem same_text {x y : Vl} (h : Same x y) : textV x = textV y := by
  obtain ⟨h1, h2, h3, h4⟩ := h
  unfold textV
  rw [h1, h2, h3, h4]
theorem same_wire {x y : Vl} (h : Same x y) : wireV x = wireV y := by
  obtain ⟨h1, h2, h3, h4⟩ := h
  unfold wireV
  rw [h1, h2, h3, h4]
theorem ok_none {x : Vl} (h : okV x = true) (hk : x.k = 0 ∨ x.k = 5) : x.n = 0 ∧ x.f = 0 ∧ x.s = ⟨#[]⟩ := by
  unfold okV at h
  simpa [hk] using h
theorem ok_bool2 {x : Vl} (h : okV x = true) (hk : x.k = 1) : x.f = 0 ∧ x.s = ⟨#[]⟩ := by
  unfold okV at h
  simp [hk] at h
  exact h.2
theorem ok_int {x : Vl} (h : okV x = true) (hk : x.k = 2) : x.f = 0 ∧ x.s = ⟨#[]⟩ := by
  unfold okV at h
  simpa [hk] using h
theorem ok_float {x : Vl} (h : okV x = true) (hk : x.k = 3) : x.n = 0 ∧ x.s = ⟨#[]⟩ := by
  unfold okV at h
  simpa [hk] using h
theorem ok_text {x : Vl} (h : okV x = true) (hk : x.k = 4) : x.n = 0 ∧ x.f = 0 := by
  unfold okV at h
  simp [hk] at h
  exact ⟨h.1, h.2.1⟩
/-- The kind of a text. -/
def cls (l : List UInt8) : Int := match l with
  | [] => 2
  | c :: t => if c = 110 then 0 else if c = 116 then 1 else if c = 102 then (if t.length = 4 then 1 else 3) else if c = 34 then 4 else if c = 109 then 5 else 2
theorem cls_text {x : Vl} (h : okV x = true) : cls (textV x) = x.k := by
  rcases ok_kind h with hk | hk | hk | hk | hk | hk
  · unfold textV; rw [if_pos hk, hk]; rfl
  · unfold textV
    rw [if_neg (by omega), if_pos hk, hk]
    split <;> rfl
  · unfold textV
    rw [if_neg (by omega), if_neg (by omega), if_pos hk, hk]
    obtain ⟨c, t, e, hc⟩ := itoa_head x.n
    rw [e]
    simp only [List.mem_cons, List.not_mem_nil, or_false, not_or] at hc
    unfold cls
    simp [hc]
  · unfold textV
    rw [if_neg (by omega), if_neg (by omega), if_neg (by omega), if_pos hk, hk]
    unfold cls
    simp [hexN_length]
  · unfold textV
    rw [if_neg (by omega), if_neg (by omega), if_neg (by omega), if_neg (by omega), if_pos hk, hk]
    rfl
  · unfold textV
    rw [if_neg (by omega), if_neg (by omega), if_neg (by omega), if_neg (by omega), if_neg (by omega), if_pos hk, hk]
    rfl
theorem str_ext {s t : ByteArray} (h : s.data.toList = t.data.toList) : s = t := by
  cases s; cases t
  simp at h
  rw [h]
theorem text_same {x y : Vl} (hx : okV x = true) (hy : okV y = true) (fx : x.f < 18446744073709551616) (fy : y.f < 18446744073709551616) (h : textV x = textV y) : Same x y := by
  have hk : x.k = y.k := by rw [← cls_text hx, ← cls_text hy, h]
  rcases ok_kind hx with k | k | k | k | k | k
  · have a := ok_none hx (.inl k)
    have b := ok_none hy (.inl (by omega))
    exact ⟨hk, by rw [a.1, b.1], by rw [a.2.1, b.2.1], by rw [a.2.2, b.2.2]⟩
  · have a := ok_bool2 hx k
    have b := ok_bool2 hy (by omega)
    have a' := ok_bool hx k
    have b' := ok_bool hy (by omega)
    refine ⟨hk, ?_, by rw [a.1, b.1], by rw [a.2, b.2]⟩
    unfold textV at h
    rw [if_neg (show ¬ x.k = 0 by omega), if_pos k, if_neg (show ¬ y.k = 0 by omega), if_pos (show y.k = 1 by omega)] at h
    rcases a' with e | e <;> rcases b' with e' | e' <;> rw [e, e'] at h ⊢ <;> simp at h
  · have a := ok_int hx k
    have b := ok_int hy (by omega)
    refine ⟨hk, ?_, by rw [a.1, b.1], by rw [a.2, b.2]⟩
    unfold textV at h
    rw [if_neg (by omega), if_neg (by omega), if_pos k, if_neg (by omega), if_neg (by omega), if_pos (by omega)] at h
    exact itoa_inj _ _ h
  · have a := ok_float hx k
    have b := ok_float hy (by omega)
    refine ⟨hk, by rw [a.1, b.1], ?_, by rw [a.2, b.2]⟩
    unfold textV at h
    rw [if_neg (by omega), if_neg (by omega), if_neg (by omega), if_pos k, if_neg (by omega), if_neg (by omega), if_neg (by omega), if_pos (by omega)] at h
    exact hexN_inj 16 _ _ (nbits_lt fx) (nbits_lt fy) (List.cons.inj h).2
  · have a := ok_text hx k
    have b := ok_text hy (by omega)
    refine ⟨hk, by rw [a.1, b.1], by rw [a.2, b.2], ?_⟩
    unfold textV at h
    rw [if_neg (by omega), if_neg (by omega), if_neg (by omega), if_neg (by omega), if_pos k, if_neg (by omega), if_neg (by omega), if_neg (by omega), if_neg (by omega), if_pos (by omega)] at h
    exact str_ext (quote_inj _ _ h)
  · have a := ok_none hx (.inr k)
    have b := ok_none hy (.inr (by omega))
    exact ⟨hk, by rw [a.1, b.1], by rw [a.2.1, b.2.1], by rw [a.2.2, b.2.2]⟩
theorem byte_inj {a b : Nat} (ha : a < 256) (hb : b < 256) (h : a.toUInt8 = b.toUInt8) : a = b := by
  have := congrArg UInt8.toNat h
  rw [show a.toUInt8.toNat = a % 256 from UInt8.toNat_ofNat .., show b.toUInt8.toNat = b % 256 from UInt8.toNat_ofNat ..] at this
  omega
theorem uvarint_inj : ∀ a b x y, Lib.uvarint a ++ x = Lib.uvarint b ++ y → a = b ∧ x = y := by
  intro a
  induction a using Nat.strongRecOn with
  | ind a ih =>
    intro b x y h
    by_cases ha : a < 128 <;> by_cases hb : b < 128
    · rw [Lib.uvarint_small ha, Lib.uvarint_small hb] at h
      have h' := List.cons.inj h
      exact ⟨byte_inj (by omega) (by omega) h'.1, h'.2⟩
    · rw [Lib.uvarint_small ha, Lib.uvarint_big (by omega)] at h
      have := byte_inj (by omega) (by omega) (List.cons.inj h).1
      omega
    · rw [Lib.uvarint_big (by omega), Lib.uvarint_small hb] at h
      have := byte_inj (by omega) (by omega) (List.cons.inj h).1
      omega
    · rw [Lib.uvarint_big (x := a) (by omega), Lib.uvarint_big (x := b) (by omega)] at h
      have h' := List.cons.inj h
      have e1 := byte_inj (by omega) (by omega) h'.1
      have e2 := ih (a / 128) (by omega) _ _ _ h'.2
      exact ⟨by omega, e2.2⟩
theorem zigzag_inj {a b : Int} (h : Lib.zigzag a = Lib.zigzag b) : a = b := by
  unfold Lib.zigzag at h
  split at h <;> split at h <;> omega
theorem fixN_inj : ∀ k u v, u < 256 ^ k → v < 256 ^ k → fixN k u = fixN k v → u = v
  | 0, u, v, hu, hv, _ => by simp at hu hv; omega
  | k + 1, u, v, hu, hv, h => by
    rw [fixN, fixN] at h
    have h' := List.cons.inj h
    have e1 := byte_inj (Nat.mod_lt _ (by omega)) (Nat.mod_lt _ (by omega)) h'.1
    have hp : 0 < 256 ^ k := Nat.pow_pos (by omega)
    rw [Nat.pow_succ] at hu hv
    have a1 : u / 256 ^ k < 256 := (Nat.div_lt_iff_lt_mul hp).2 (by rw [Nat.mul_comm]; exact hu)
    have a2 : v / 256 ^ k < 256 := (Nat.div_lt_iff_lt_mul hp).2 (by rw [Nat.mul_comm]; exact hv)
    rw [Nat.mod_eq_of_lt a1, Nat.mod_eq_of_lt a2] at e1
    have key : ∀ j n, fixN j n = fixN j (n % 256 ^ j) := by
      intro j
      induction j with
      | zero => intro n; rfl
      | succ j ih =>
        intro n
        rw [fixN, fixN, ih n, ih (n % 256 ^ (j + 1))]
        have hq : 0 < 256 ^ j := Nat.pow_pos (by omega)
        rw [Nat.pow_succ, Nat.mod_mul_right_div_self, Nat.mod_mod, Nat.mod_mul_right_mod]
    have h2 := h'.2
    rw [key k u, key k v] at h2
    have e2 := fixN_inj k _ _ (Nat.mod_lt _ hp) (Nat.mod_lt _ hp) h2
    rw [← Nat.div_add_mod u (256 ^ k), ← Nat.div_add_mod v (256 ^ k), e1, e2]
theorem wire_same {x y : Vl} (hx : okV x = true) (hy : okV y = true) (fx : x.f < 18446744073709551616) (fy : y.f < 18446744073709551616) (h : wireV x = wireV y) : Same x y := by
  unfold wireV at h
  obtain ⟨h1, h2⟩ := List.cons.inj h
  have kx := ok_kind hx
  have ky := ok_kind hy
  have hk : x.k = y.k := by
    have := byte_inj (by omega) (by omega) h1
    omega
  clear h h1
  rcases kx with k | k | k | k | k | k
  · have a := ok_none hx (.inl k)
    have b := ok_none hy (.inl (by omega))
    exact ⟨hk, by rw [a.1, b.1], by rw [a.2.1, b.2.1], by rw [a.2.2, b.2.2]⟩
  · have a := ok_bool2 hx k
    have b := ok_bool2 hy (by omega)
    have a' := ok_bool hx k
    have b' := ok_bool hy (by omega)
    refine ⟨hk, ?_, by rw [a.1, b.1], by rw [a.2, b.2]⟩
    rw [if_pos k, if_pos (by omega)] at h2
    rcases a' with e | e <;> rcases b' with e' | e' <;> rw [e, e'] at h2 ⊢ <;> simp at h2
  · have a := ok_int hx k
    have b := ok_int hy (by omega)
    refine ⟨hk, ?_, by rw [a.1, b.1], by rw [a.2, b.2]⟩
    rw [if_neg (by omega), if_pos k, if_neg (by omega), if_pos (by omega)] at h2
    have := uvarint_inj _ _ [] [] (by simpa using h2)
    exact zigzag_inj this.1
  · have a := ok_float hx k
    have b := ok_float hy (by omega)
    refine ⟨hk, by rw [a.1, b.1], ?_, by rw [a.2, b.2]⟩
    rw [if_neg (by omega), if_neg (by omega), if_pos k, if_neg (by omega), if_neg (by omega), if_pos (by omega)] at h2
    exact fixN_inj 8 _ _ (nbits_lt fx) (nbits_lt fy) h2
  · have a := ok_text hx k
    have b := ok_text hy (by omega)
    refine ⟨hk, by rw [a.1, b.1], by rw [a.2, b.2], ?_⟩
    rw [if_neg (by omega), if_neg (by omega), if_neg (by omega), if_pos k, if_neg (by omega), if_neg (by omega), if_neg (by omega), if_pos (by omega)] at h2
    exact str_ext (uvarint_inj _ _ _ _ h2).2
  · have a := ok_none hx (.inr k)
    have b := ok_none hy (.inr (by omega))
    exact ⟨hk, by rw [a.1, b.1], by rw [a.2.1, b.2.1], by rw [a.2.2, b.2.2]⟩
end Val
end Go.Proofs.YtnlmilcfmalodaaDoor
