/- Plain facts about texts as runes: decoding a list of bytes into runes, encoding runes, counts of UTF-16 units, cuts and places. No program in sight. -/
import Derived.Lib.ValidLaws
import Derived.Lib.RuneCount
import Derived.Laws.Cover4
namespace Go.Proofs.YtpfhnapjddckfaaGreatDoor
namespace Utf
open Go.Lib

def bad (l : List UInt8) : Bool := decide ((decodeL l).1 = 65533 ∧ (decodeL l).2 = 1)
def runesF : Nat → List UInt8 → Option (List Int)
  | 0, _ => some []
  | n + 1, l => if l = [] then some [] else if bad l then none else (runesF n (l.drop (decodeL l).2)).map (fun rs => ((decodeL l).1 : Int) :: rs)
def runesL (l : List UInt8) : Option (List Int) := runesF l.length l
/-- The runes of a text; none where it is no text. -/
def rs (l : List UInt8) : List Int := (runesL l).getD []
def wd (r : Int) : Nat := if 65535 < r then 2 else 1
def u16 (l : List Int) : Nat := (l.map wd).sum
def enc (l : List Int) : List UInt8 := l.flatMap encodeRune
def good (r : Int) : Prop := (0 ≤ r ∧ r < 55296) ∨ (57344 ≤ r ∧ r ≤ 1114111)

theorem runesF_nil : ∀ n, runesF n [] = some []
  | 0 => rfl
  | _ + 1 => by simp [runesF]
theorem runesF_fuel : ∀ (n m : Nat) (l : List UInt8), l.length ≤ n → l.length ≤ m → runesF n l = runesF m l
  | 0, m, l, hn, _ => by
    have : l = [] := List.eq_nil_of_length_eq_zero (by omega)
    subst this
    rw [runesF_nil, runesF_nil]
  | n + 1, 0, l, _, hm => by
    have : l = [] := List.eq_nil_of_length_eq_zero (by omega)
    subst this
    rw [runesF_nil, runesF_nil]
  | n + 1, m + 1, l, hn, hm => by
    by_cases hne : l = []
    · subst hne; rw [runesF_nil, runesF_nil]
    · have hw := decodeL_width l
      have hl : 0 < l.length := List.length_pos_iff.2 hne
      simp only [runesF, if_neg hne]
      rw [runesF_fuel n m (l.drop (decodeL l).2) (by rw [List.length_drop]; omega) (by rw [List.length_drop]; omega)]
theorem runesL_nil : runesL [] = some [] := rfl
theorem runesL_step (l : List UInt8) (hne : l ≠ []) : runesL l = if bad l then none else (runesL (l.drop (decodeL l).2)).map (fun r => ((decodeL l).1 : Int) :: r) := by
  have hl : 0 < l.length := List.length_pos_iff.2 hne
  have hw := decodeL_width l
  obtain ⟨n, hn⟩ : ∃ n, l.length = n + 1 := ⟨l.length - 1, by omega⟩
  unfold runesL
  rw [hn]
  simp only [runesF, if_neg hne]
  rw [runesF_fuel n _ (l.drop (decodeL l).2) (by rw [List.length_drop]; omega) (Nat.le_refl _)]

/-- Induction along the decoding. -/
theorem byRunes {C : List UInt8 → Prop} (h0 : C []) (h1 : ∀ l, l ≠ [] → C (l.drop (decodeL l).2) → C l) (l : List UInt8) : C l := by
  have key : ∀ n, ∀ l : List UInt8, l.length ≤ n → C l := by
    intro n
    induction n with
    | zero => intro l hl; have : l = [] := List.eq_nil_of_length_eq_zero (by omega); subst this; exact h0
    | succ n ih =>
      intro l hl
      by_cases hne : l = []
      · subst hne; exact h0
      · have hw := decodeL_width l
        have hp : 0 < l.length := List.length_pos_iff.2 hne
        exact h1 l hne (ih _ (by rw [List.length_drop]; omega))
  exact key l.length l (Nat.le_refl _)

theorem isSome_eq (l : List UInt8) : (runesL l).isSome = validD l := by
  refine byRunes (C := fun l => (runesL l).isSome = validD l) rfl ?_ l
  intro l hne ih
  rw [runesL_step l hne, validD_step l hne]
  unfold bad
  by_cases hb : (decodeL l).1 = 65533 ∧ (decodeL l).2 = 1
  · rw [if_pos hb, decide_eq_true hb]; rfl
  · rw [if_neg hb, decide_eq_false hb, ← ih]; simp
theorem rs_none {l : List UInt8} (h : validD l = false) : rs l = [] := by
  rw [← isSome_eq] at h
  unfold rs
  cases hr : runesL l with
  | none => rfl
  | some x => rw [hr] at h; simp at h
theorem runesL_some {l : List UInt8} (h : validD l = true) : runesL l = some (rs l) := by
  rw [← isSome_eq] at h
  unfold rs
  cases hr : runesL l with
  | none => rw [hr] at h; simp at h
  | some x => rfl
theorem valid_of_some {l : List UInt8} {r : List Int} (h : runesL l = some r) : validD l = true ∧ rs l = r := by
  refine ⟨?_, by unfold rs; rw [h]; rfl⟩
  rw [← isSome_eq, h]; rfl

theorem decodeL_good (l : List UInt8) (hne : l ≠ []) (hb : bad l = false) : good ((decodeL l).1 : Int) := by
  have hl : 0 < l.length := List.length_pos_iff.2 hne
  unfold bad at hb
  have hb' := of_decide_eq_false hb
  clear hb
  rw [decodeL_N] at hb' ⊢
  unfold good
  rcases decodeN_shape l.length (l.getD 0 0).toNat (l.getD 1 0).toNat (l.getD 2 0).toNat (l.getD 3 0).toNat with ⟨c, e⟩ | ⟨c1, c2, c3, cv, e⟩ | ⟨c1, c2, c3, c4, cv, cs, e⟩ | ⟨c1, c2, c3, c4, c5, cv, cw, e⟩ | e
  all_goals (rw [e] at hb' ⊢; dsimp only at hb' ⊢)
  all_goals omega

theorem some_facts (l : List UInt8) : ∀ r, runesL l = some r → enc r = l ∧ (∀ x ∈ r, good x) ∧ r.length ≤ l.length := by
  refine byRunes (C := fun l => ∀ r, runesL l = some r → enc r = l ∧ (∀ x ∈ r, good x) ∧ r.length ≤ l.length) ?_ ?_ l
  · intro r h; rw [runesL_nil] at h; cases h; exact ⟨rfl, (fun x hx => absurd hx List.not_mem_nil), Nat.le_refl _⟩
  · intro l hne ih r h
    rw [runesL_step l hne] at h
    by_cases hb : bad l = true
    · rw [if_pos hb] at h; cases h
    · have hb' : bad l = false := by simpa using hb
      rw [if_neg hb] at h
      obtain ⟨t, ht, rfl⟩ := Option.map_eq_some_iff.1 h
      obtain ⟨h1, h2, h3⟩ := ih t ht
      have hw := decodeL_width l
      have hle := decodeL_le l hne
      rw [List.length_drop] at h3
      refine ⟨?_, ?_, by simp only [List.length_cons]; omega⟩
      · unfold enc at h1 ⊢
        rw [List.flatMap_cons, h1, encode_decode l hne (of_decide_eq_false hb')]
        exact List.take_append_drop _ _
      · intro x hx
        rcases List.mem_cons.1 hx with rfl | hx
        · exact decodeL_good l hne hb'
        · exact h2 x hx
theorem rs_length (l : List UInt8) : (rs l).length ≤ l.length := by
  cases hv : validD l with
  | false => rw [rs_none hv]; simp
  | true => exact (some_facts l _ (runesL_some hv)).2.2
theorem enc_rs {l : List UInt8} (h : validD l = true) : enc (rs l) = l := (some_facts l _ (runesL_some h)).1
theorem rs_good (l : List UInt8) : ∀ x ∈ rs l, good x := by
  cases hv : validD l with
  | false => rw [rs_none hv]; intro x h; cases h
  | true => exact (some_facts l _ (runesL_some hv)).2.1

theorem good_decode (r : Int) (hg : good r) (t : List UInt8) : decodeL (encodeRune r ++ t) = (r.toNat, (encodeRune r).length) := by
  have hr : (0 ≤ r ∧ r ≤ 127) ∨ (128 ≤ r ∧ r ≤ 2047) ∨ ((2048 ≤ r ∧ r < 55296) ∨ (57343 < r ∧ r ≤ 65535)) ∨ (65536 ≤ r ∧ r ≤ 1114111) := by unfold good at hg; omega
  have tb : ∀ z : Int, 0 ≤ z → z < 256 → z.toNat.toUInt8.toNat = z.toNat := by
    intro z h0 h1
    show z.toNat % 256 = z.toNat
    exact Nat.mod_eq_of_lt (by omega)
  rw [decodeL_N]
  unfold encodeRune
  rcases hr with h | h | h | h
  · rw [encodeRuneZ_one h.1 h.2]
    simp only [List.map_cons, List.map_nil, List.cons_append, List.nil_append, List.length_cons, List.getD_cons_zero, List.getD_cons_succ, List.length_nil]
    rw [tb _ (by omega) (by omega)]
    unfold decodeN
    rw [if_pos (by omega)]
  · rw [encodeRuneZ_two h.1 h.2]
    simp only [List.map_cons, List.map_nil, List.cons_append, List.nil_append, List.length_cons, List.getD_cons_zero, List.getD_cons_succ, List.length_nil]
    rw [tb (192 + r / 64) (by omega) (by omega), tb (128 + r % 64) (by omega) (by omega)]
    unfold decodeN
    rw [if_neg (by omega), if_pos (by omega), if_pos (by omega)]
    exact Prod.ext (by dsimp only; omega) rfl
  · rw [encodeRuneZ_three h]
    simp only [List.map_cons, List.map_nil, List.cons_append, List.nil_append, List.length_cons, List.getD_cons_zero, List.getD_cons_succ, List.length_nil]
    rw [tb (224 + r / 4096) (by omega) (by omega), tb (128 + r / 64 % 64) (by omega) (by omega), tb (128 + r % 64) (by omega) (by omega)]
    unfold decodeN
    rw [if_neg (by omega), if_neg (by omega), if_pos (by omega), if_pos (by omega)]
    exact Prod.ext (by dsimp only; omega) rfl
  · rw [encodeRuneZ_four h.1 h.2]
    simp only [List.map_cons, List.map_nil, List.cons_append, List.nil_append, List.length_cons, List.getD_cons_zero, List.getD_cons_succ, List.length_nil]
    rw [tb (240 + r / 262144) (by omega) (by omega), tb (128 + r / 4096 % 64) (by omega) (by omega), tb (128 + r / 64 % 64) (by omega) (by omega), tb (128 + r % 64) (by omega) (by omega)]
    unfold decodeN
    rw [if_neg (by omega), if_neg (by omega), if_neg (by omega), if_pos (by omega), if_pos (by omega)]
    exact Prod.ext (by dsimp only; omega) rfl
theorem encodeRune_ne (r : Int) : encodeRune r ≠ [] := by
  intro h
  have := (encodeRuneZ_length r).1
  have h2 : (encodeRune r).length = 0 := by rw [h]; rfl
  unfold encodeRune at h2
  rw [List.length_map] at h2
  omega
theorem encodeRune_fffd : (encodeRune 65533).length = 3 := by kernel_rfl
theorem runesL_cons (r : Int) (hg : good r) (t : List UInt8) : runesL (encodeRune r ++ t) = (runesL t).map (fun x => r :: x) := by
  have hne : encodeRune r ++ t ≠ [] := by intro h; exact encodeRune_ne r (List.append_eq_nil_iff.1 h).1
  rw [runesL_step _ hne, good_decode r hg t]
  have h0 : 0 ≤ r := by unfold good at hg; omega
  have hb : bad (encodeRune r ++ t) = false := by
    unfold bad
    rw [good_decode r hg t]
    refine decide_eq_false ?_
    rintro ⟨h1, h2⟩
    dsimp only at h1 h2
    obtain rfl : r = 65533 := by omega
    rw [encodeRune_fffd] at h2
    omega
  rw [hb]
  simp only [Bool.false_eq_true, if_false, List.drop_left, Int.toNat_of_nonneg h0]
theorem runesL_enc : ∀ (l : List Int) (t : List UInt8), (∀ x ∈ l, good x) → runesL (enc l ++ t) = (runesL t).map (fun x => l ++ x)
  | [], t, _ => by simp [enc]
  | r :: l, t, h => by
    have ih := runesL_enc l t (fun x hx => h x (List.mem_cons_of_mem _ hx))
    unfold enc at ih ⊢
    rw [List.flatMap_cons, List.append_assoc, runesL_cons r (h r (List.mem_cons_self ..)), ih]
    cases runesL t <;> rfl
theorem rs_enc (l : List Int) (h : ∀ x ∈ l, good x) : runesL (enc l) = some l := by
  have := runesL_enc l [] h
  rw [List.append_nil, runesL_nil] at this
  simpa using this
theorem rs_append {a b : List UInt8} (ha : validD a = true) (hb : validD b = true) : validD (a ++ b) = true ∧ rs (a ++ b) = rs a ++ rs b := by
  have h := runesL_enc (rs a) b (rs_good a)
  rw [enc_rs ha, runesL_some hb] at h
  exact valid_of_some h
theorem enc_append (a b : List Int) : enc (a ++ b) = enc a ++ enc b := by unfold enc; rw [List.flatMap_append]

/-! The model's encoder. -/
theorem encode_eq (r : Int) (hg : good r) : (Utf8.encode r).data.toList = encodeRune r := by
  have hr : (0 ≤ r ∧ r ≤ 127) ∨ (128 ≤ r ∧ r ≤ 2047) ∨ ((2048 ≤ r ∧ r < 55296) ∨ (57343 < r ∧ r ≤ 65535)) ∨ (65536 ≤ r ∧ r ≤ 1114111) := by unfold good at hg; omega
  have hv : Utf8.valid r = true := by unfold good at hg; unfold Utf8.valid; simp; omega
  unfold Utf8.encode encodeRune
  simp only [hv, if_true]
  have b : ∀ (n : Nat) (z : Int), z = (n : Int) → UInt8.ofNat n = z.toNat.toUInt8 := by intro n z h; subst h; rfl
  rcases hr with h | h | h | h
  · rw [encodeRuneZ_one h.1 h.2, if_pos (by omega)]
    simp only [List.map_cons, List.map_nil]
  · rw [encodeRuneZ_two h.1 h.2, if_neg (by omega), if_pos (by omega)]
    simp only [List.map_cons, List.map_nil]
    rw [b _ (192 + r / 64) (by omega), b _ (128 + r % 64) (by omega)]
  · rw [encodeRuneZ_three h, if_neg (by omega), if_neg (by omega), if_pos (by omega)]
    simp only [List.map_cons, List.map_nil]
    rw [b _ (224 + r / 4096) (by omega), b _ (128 + r / 64 % 64) (by omega), b _ (128 + r % 64) (by omega)]
  · rw [encodeRuneZ_four h.1 h.2, if_neg (by omega), if_neg (by omega), if_neg (by omega)]
    simp only [List.map_cons, List.map_nil]
    rw [b _ (240 + r / 262144) (by omega), b _ (128 + r / 4096 % 64) (by omega), b _ (128 + r / 64 % 64) (by omega), b _ (128 + r % 64) (by omega)]
theorem runesBytes_from (l : List Int) (h : ∀ x ∈ l, good x) : ∀ s : ByteArray, (l.foldl (fun r n => r ++ Utf8.encode n) s).data.toList = s.data.toList ++ enc l := by
  induction l with
  | nil => intro s; simp [enc]
  | cons r l ih =>
    intro s
    rw [List.foldl_cons, ih (fun x hx => h x (List.mem_cons_of_mem _ hx))]
    have := encode_eq r (h r (List.mem_cons_self ..))
    unfold enc
    rw [List.flatMap_cons, ← this]
    simp [ByteArray.data_append]
theorem runesBytes_eq (l : List Int) (h : ∀ x ∈ l, good x) : (runesBytes l).data.toList = enc l := by
  unfold runesBytes
  rw [runesBytes_from l h]
  simp
theorem bytes_ext {a b : ByteArray} (h : a.data.toList = b.data.toList) : a = b := by
  cases a; cases b; simp at h; subst h; rfl

/-! Counting by the library's count. -/
theorem runeCountFrom_eq (s : ByteArray) : ∀ (fuel pos : Nat) (r : List Int), s.size ≤ pos + fuel → runesL (s.data.toList.drop pos) = some r → runeCountFrom s fuel pos = r.length
  | 0, pos, r, hf, h => by
    have : s.data.toList.drop pos = [] := List.drop_eq_nil_of_le (by simp; show s.size ≤ pos; omega)
    rw [this, runesL_nil] at h
    cases h
    rfl
  | f + 1, pos, r, hf, h => by
    by_cases hp : pos < s.size
    · have hne : s.data.toList.drop pos ≠ [] := by
        intro e
        have := congrArg List.length e
        rw [List.length_drop] at this
        simp at this
        have h2 : s.size - pos = 0 := this
        omega
      rw [runesL_step _ hne, decodeL_drop] at h
      by_cases hb : bad (s.data.toList.drop pos) = true
      · rw [if_pos hb] at h; cases h
      · rw [if_neg hb, List.drop_drop] at h
        obtain ⟨t, ht, rfl⟩ := Option.map_eq_some_iff.1 h
        have hw := decode_width_pos s pos hp
        unfold runeCountFrom
        rw [if_pos hp, runeCountFrom_eq s f _ t (by omega) ht]
        simp only [List.length_cons]
        omega
    · have : s.data.toList.drop pos = [] := List.drop_eq_nil_of_le (by simp; show s.size ≤ pos; omega)
      rw [this, runesL_nil] at h
      cases h
      rw [runeCountFrom_end s _ _ hp]
      rfl
theorem runeCount_eq (s : ByteArray) (h : validD s.data.toList = true) : runeCount s = (rs s.data.toList).length :=
  runeCountFrom_eq s s.size 0 _ (by omega) (by rw [List.drop_zero]; exact runesL_some h)

/-! Units, cuts, places. -/
theorem wd_pos (r : Int) : 1 ≤ wd r ∧ wd r ≤ 2 := by unfold wd; split <;> omega
theorem u16_nil : u16 [] = 0 := rfl
theorem u16_append (a b : List Int) : u16 (a ++ b) = u16 a + u16 b := by unfold u16; rw [List.map_append, List.sum_append]
theorem u16_snoc (a : List Int) (r : Int) : u16 (a ++ [r]) = u16 a + wd r := by rw [u16_append]; simp [u16]
theorem u16_le (a : List Int) : a.length ≤ u16 a ∧ u16 a ≤ 2 * a.length := by
  induction a with
  | nil => exact ⟨Nat.le_refl _, Nat.le_refl _⟩
  | cons r a ih =>
    have := wd_pos r
    unfold u16 at ih ⊢
    simp only [List.map_cons, List.sum_cons, List.length_cons]
    omega
theorem u16_take_succ (l : List Int) (k : Nat) (h : k < l.length) : u16 (l.take (k + 1)) = u16 (l.take k) + wd l[k] := by
  rw [List.take_succ_eq_append_getElem h, u16_snoc]
theorem u16_mono (l : List Int) {i j : Nat} (h : i ≤ j) : u16 (l.take i) ≤ u16 (l.take j) := by
  have : l.take j = l.take i ++ (l.take j).drop i := by
    have := (List.take_append_drop i (l.take j)).symm
    rwa [List.take_take, Nat.min_eq_left h] at this
  rw [this, u16_append]; omega
theorem u16_strict (l : List Int) {i j : Nat} (h : i < j) (hj : j ≤ l.length) : u16 (l.take i) < u16 (l.take j) := by
  have h1 := u16_take_succ l i (by omega)
  have h2 := u16_mono l (show i + 1 ≤ j by omega)
  have h3 := wd_pos (l[i]'(by omega))
  omega
def cutL (l : List Int) (a b : Int) : List Int := (l.take b.toNat).drop a.toNat
theorem cutL_zero (l : List Int) (a b : Int) : cutL (l.take 0) a b = [] := by simp [cutL]
theorem cutL_in (l : List Int) (a b : Int) (k : Nat) (hk : k < l.length) (h1 : a ≤ k) (h2 : (k : Int) < b) : cutL (l.take (k + 1)) a b = cutL (l.take k) a b ++ [l.getD k 0] := by
  unfold cutL
  rw [List.take_take, List.take_take, Nat.min_eq_right (by omega : k + 1 ≤ b.toNat), Nat.min_eq_right (by omega : k ≤ b.toNat), List.take_succ_eq_append_getElem hk, List.drop_append_of_le_length (by simp; omega)]
  simp [List.getD, hk]
theorem cutL_low (l : List Int) (a b : Int) (k : Nat) (h1 : (k : Int) < a) : cutL (l.take (k + 1)) a b = cutL (l.take k) a b := by
  unfold cutL
  rw [List.drop_eq_nil_of_le (by simp; omega), List.drop_eq_nil_of_le (by simp; omega)]
theorem cutL_high (l : List Int) (a b : Int) (k : Nat) (h2 : b ≤ (k : Int)) : cutL (l.take (k + 1)) a b = cutL (l.take k) a b := by
  unfold cutL
  rw [List.take_take, List.take_take, Nat.min_eq_left (by omega), Nat.min_eq_left (by omega)]
theorem cutL_length (l : List Int) (a b : Int) : (cutL l a b).length ≤ l.length := by unfold cutL; simp; omega
theorem cutL_good {l : List Int} (h : ∀ x ∈ l, good x) (a b : Int) : ∀ x ∈ cutL l a b, good x :=
  fun x hx => h x (List.mem_of_mem_take (List.mem_of_mem_drop hx))
/-- The place in runes of a place in units: the first that fits. -/
def p16 (l : List Int) (n : Int) : Int × Int :=
  match (List.range (l.length + 1)).find? (fun i => decide ((u16 (l.take i) : Int) = n)) with
  | some i => ((i : Int), 0)
  | none => (0, 30)
theorem p16_at (l : List Int) (n : Int) (i : Nat) (hi : i ≤ l.length) (h : (u16 (l.take i) : Int) = n) : p16 l n = ((i : Int), 0) := by
  unfold p16
  have hs : (List.range (l.length + 1)).find? (fun i => decide ((u16 (l.take i) : Int) = n)) = some i := by
    rw [List.find?_range_eq_some]
    refine ⟨by simpa using h, by simp; omega, ?_⟩
    intro j hj
    have := u16_strict l hj hi
    simp
    omega
  rw [hs]
theorem p16_none (l : List Int) (n : Int) (h : ∀ i, i ≤ l.length → (u16 (l.take i) : Int) ≠ n) : p16 l n = (0, 30) := by
  unfold p16
  have hs : (List.range (l.length + 1)).find? (fun i => decide ((u16 (l.take i) : Int) = n)) = none := by
    rw [List.find?_eq_none]
    intro i hi
    have := h i (by simp at hi; omega)
    simpa using this
  rw [hs]
theorem p16_cases (l : List Int) (n : Int) : (∃ i : Nat, i ≤ l.length ∧ (u16 (l.take i) : Int) = n ∧ p16 l n = ((i : Int), 0)) ∨ ((∀ i, i ≤ l.length → (u16 (l.take i) : Int) ≠ n) ∧ p16 l n = (0, 30)) := by
  by_cases h : ∃ i : Nat, i ≤ l.length ∧ (u16 (l.take i) : Int) = n
  · obtain ⟨i, hi, e⟩ := h
    exact .inl ⟨i, hi, e, p16_at l n i hi e⟩
  · refine .inr ⟨fun i hi e => h ⟨i, hi, e⟩, p16_none l n fun i hi e => h ⟨i, hi, e⟩⟩
def place16 (l : List UInt8) (n : Int) : Int × Int := if validD l then p16 (rs l) n else (0, 31)
def place (l : List UInt8) (n : Int) : Int × Int := if validD l then (if n < 0 ∨ ((rs l).length : Int) < n then (0, 30) else ((u16 ((rs l).take n.toNat) : Int), 0)) else (0, 31)
end Utf
end Go.Proofs.YtpfhnapjddckfaaGreatDoor
