/- Merged: UtfPlain, UtfNext, UtfWalk, UtfCut, UtfRef, Val, Val2, Val3, Val5. -/
import Derived.Lib.ValidLaws
import Derived.Lib.RuneCount
import Derived.Laws.Cover4
import Derived.Test.YtglfoofclicfpaaDoorProg
import Derived.Test.YtglfoofclicfpaaDoorSxC
import Derived.Test.YtglfoofclicfpaaDoorShelf
import Derived.Test.YtglfoofclicfpaaDoorSxGo
import Derived.Test.YtglfoofclicfpaaDoorSxD
namespace Go.Proofs.YtglfoofclicfpaaDoor
set_option maxRecDepth 100000
namespace Utf
open Go.Lib

def bad (l : List UInt8) : Bool := decide ((decodeL l).1 = 65533 ∧ (decodeL l).2 = 1)
def runesF : Nat → List UInt8 → Option (List Int)
  | 0, _ => some []
  | n + 1, l => if l = [] then some [] else if bad l then none else (runesF n (l.drop (decodeL l).2)).map (fun rs => ((decodeL l).1 : Int) :: rs)
def runesL (l : List UInt8) : Option (List Int) := runesF l.length l
/-- The runes of a text; none where it is no text. -/
def rs (l : List UInt8) : List Int := (runesL l).getD []
def wd (r : Int) : Nat := if 65535 < r then 2 else 1
def u16 (l : List Int) : Nat := (l.map wd).sum
def enc (l : List Int) : List UInt8 := l.flatMap encodeRune
def good (r : Int) : Prop := (0 ≤ r ∧ r < 55296) ∨ (57344 ≤ r ∧ r ≤ 1114111)

theorem runesF_nil : ∀ n, runesF n [] = some []
  | 0 => rfl
  | _ + 1 => by simp [runesF]
theorem runesF_fuel : ∀ (n m : Nat) (l : List UInt8), l.length ≤ n → l.length ≤ m → runesF n l = runesF m l
  | 0, m, l, hn, _ => by
    have : l = [] := List.eq_nil_of_length_eq_zero (by omega)
    subst this
    rw [runesF_nil, runesF_nil]
  | n + 1, 0, l, _, hm => by
    have : l = [] := List.eq_nil_of_length_eq_zero (by omega)
    subst this
    rw [runesF_nil, runesF_nil]
  | n + 1, m + 1, l, hn, hm => by
    by_cases hne : l = []
    · subst hne; rw [runesF_nil, runesF_nil]
    · have hw := decodeL_width l
      have hl : 0 < l.length := List.length_pos_iff.2 hne
      simp only [runesF, if_neg hne]
      rw [runesF_fuel n m (l.drop (decodeL l).2) (by rw [List.length_drop]; omega) (by rw [List.length_drop]; omega)]
theorem runesL_nil : runesL [] = some [] := rfl
theorem runesL_step (l : List UInt8) (hne : l ≠ []) : runesL l = if bad l then none else (runesL (l.drop (decodeL l).2)).map (fun r => ((decodeL l).1 : Int) :: r) := by
  have hl : 0 < l.length := List.length_pos_iff.2 hne
  have hw := decodeL_width l
  obtain ⟨n, hn⟩ : ∃ n, l.length = n + 1 := ⟨l.length - 1, by omega⟩
  unfold runesL
  rw [hn]
  simp only [runesF, if_neg hne]
  rw [runesF_fuel n _ (l.drop (decodeL l).2) (by rw [List.length_drop]; omega) (Nat.le_refl _)]

/-- Induction along the decoding. -/
theorem byRunes {C : List UInt8 → Prop} (h0 : C []) (h1 : ∀ l, l ≠ [] → C (l.drop (decodeL l).2) → C l) (l : List UInt8) : C l := by
  have key : ∀ n, ∀ l : List UInt8, l.length ≤ n → C l := by
    intro n
    induction n with
    | zero => intro l hl; have : l = [] := List.eq_nil_of_length_eq_zero (by omega); subst this; exact h0
    | succ n ih =>
      intro l hl
      by_cases hne : l = []
      · subst hne; exact h0
      · have hw := decodeL_width l
        have hp : 0 < l.length := List.length_pos_iff.2 hne
        exact h1 l hne (ih _ (by rw [List.length_drop]; omega))
  exact key l.length l (Nat.le_refl _)

theorem isSome_eq (l : List UInt8) : (runesL l).isSome = validD l := by
  refine byRunes (C := fun l => (runesL l).isSome = validD l) rfl ?_ l
  intro l hne ih
  rw [runesL_step l hne, validD_step l hne]
  unfold bad
  by_cases hb : (decodeL l).1 = 65533 ∧ (decodeL l).2 = 1
  · rw [if_pos hb, decide_eq_true hb]; rfl
  · rw [if_neg hb, decide_eq_false hb, ← ih]; simp
theorem rs_none {l : List UInt8} (h : validD l = false) : rs l = [] := by
  rw [← isSome_eq] at h
  unfold rs
  cases hr : runesL l with
  | none => rfl
  | some x => rw [hr] at h; simp at h
theorem runesL_some {l : List UInt8} (h : validD l = true) : runesL l = some (rs l) := by
  rw [← isSome_eq] at h
  unfold rs
  cases hr : runesL l with
  | none => rw [hr] at h; simp at h
  | some x => rfl
theorem valid_of_some {l : List UInt8} {r : List Int} (h : runesL l = some r) : validD l = true ∧ rs l = r := by
  refine ⟨?_, by unfold rs; rw [h]; rfl⟩
  rw [← isSome_eq, h]; rfl

theorem decodeL_good (l : List UInt8) (hne : l ≠ []) (hb : bad l = false) : good ((decodeL l).1 : Int) := by
  have hl : 0 < l.length := List.length_pos_iff.2 hne
  unfold bad at hb
  have hb' := of_decide_eq_false hb
  clear hb
  rw [decodeL_N] at hb' ⊢
  unfold good
  rcases decodeN_shape l.length (l.getD 0 0).toNat (l.getD 1 0).toNat (l.getD 2 0).toNat (l.getD 3 0).toNat with ⟨c, e⟩ | ⟨c1, c2, c3, cv, e⟩ | ⟨c1, c2, c3, c4, cv, cs, e⟩ | ⟨c1, c2, c3, c4, c5, cv, cw, e⟩ | e
  all_goals (rw [e] at hb' ⊢; dsimp only at hb' ⊢)
  all_goals omega

theorem some_facts (l : List UInt8) : ∀ r, runesL l = some r → enc r = l ∧ (∀ x ∈ r, good x) ∧ r.length ≤ l.length := by
  refine byRunes (C := fun l => ∀ r, runesL l = some r → enc r = l ∧ (∀ x ∈ r, good x) ∧ r.length ≤ l.length) ?_ ?_ l
  · intro r h; rw [runesL_nil] at h; cases h; exact ⟨rfl, (fun x hx => absurd hx List.not_mem_nil), Nat.le_refl _⟩
  · intro l hne ih r h
    rw [runesL_step l hne] at h
    by_cases hb : bad l = true
    · rw [if_pos hb] at h; cases h
    · have hb' : bad l = false := by simpa using hb
      rw [if_neg hb] at h
      obtain ⟨t, ht, rfl⟩ := Option.map_eq_some_iff.1 h
      obtain ⟨h1, h2, h3⟩ := ih t ht
      have hw := decodeL_width l
      have hle := decodeL_le l hne
      rw [List.length_drop] at h3
      refine ⟨?_, ?_, by simp only [List.length_cons]; omega⟩
      · unfold enc at h1 ⊢
        rw [List.flatMap_cons, h1, encode_decode l hne (of_decide_eq_false hb')]
        exact List.take_append_drop _ _
      · intro x hx
        rcases List.mem_cons.1 hx with rfl | hx
        · exact decodeL_good l hne hb'
        · exact h2 x hx
theorem rs_length (l : List UInt8) : (rs l).length ≤ l.length := by
  cases hv : validD l with
  | false => rw [rs_none hv]; simp
  | true => exact (some_facts l _ (runesL_some hv)).2.2
theorem enc_rs {l : List UInt8} (h : validD l = true) : enc (rs l) = l := (some_facts l _ (runesL_some h)).1
theorem rs_good (l : List UInt8) : ∀ x ∈ rs l, good x := by
  cases hv : validD l with
  | false => rw [rs_none hv]; intro x h; cases h
  | true => exact (some_facts l _ (runesL_some hv)).2.1

theorem good_decode (r : Int) (hg : good r) (t : List UInt8) : decodeL (encodeRune r ++ t) = (r.toNat, (encodeRune r).length) := by
  have hr : (0 ≤ r ∧ r ≤ 127) ∨ (128 ≤ r ∧ r ≤ 2047) ∨ ((2048 ≤ r ∧ r < 55296) ∨ (57343 < r ∧ r ≤ 65535)) ∨ (65536 ≤ r ∧ r ≤ 1114111) := by unfold good at hg; omega
  have tb : ∀ z : Int, 0 ≤ z → z < 256 → z.toNat.toUInt8.toNat = z.toNat := by
    intro z h0 h1
    show z.toNat % 256 = z.toNat
    exact Nat.mod_eq_of_lt (by omega)
  rw [decodeL_N]
  unfold encodeRune
  rcases hr with h | h | h | h
  · rw [encodeRuneZ_one h.1 h.2]
    simp only [List.map_cons, List.map_nil, List.cons_append, List.nil_append, List.length_cons, List.getD_cons_zero, List.getD_cons_succ, List.length_nil]
    rw [tb _ (by omega) (by omega)]
    unfold decodeN
    rw [if_pos (by omega)]
  · rw [encodeRuneZ_two h.1 h.2]
    simp only [List.map_cons, List.map_nil, List.cons_append, List.nil_append, List.length_cons, List.getD_cons_zero, List.getD_cons_succ, List.length_nil]
    rw [tb (192 + r / 64) (by omega) (by omega), tb (128 + r % 64) (by omega) (by omega)]
    unfold decodeN
    rw [if_neg (by omega), if_pos (by omega), if_pos (by omega)]
    exact Prod.ext (by dsimp only; omega) rfl
  · rw [encodeRuneZ_three h]
    simp only [List.map_cons, List.map_nil, List.cons_append, List.nil_append, List.length_cons, List.getD_cons_zero, List.getD_cons_succ, List.length_nil]
    rw [tb (224 + r / 4096) (by omega) (by omega), tb (128 + r / 64 % 64) (by omega) (by omega), tb (128 + r % 64) (by omega) (by omega)]
    unfold decodeN
    rw [if_neg (by omega), if_neg (by omega), if_pos (by omega), if_pos (by omega)]
    exact Prod.ext (by dsimp only; omega) rfl
  · rw [encodeRuneZ_four h.1 h.2]
    simp only [List.map_cons, List.map_nil, List.cons_append, List.nil_append, List.length_cons, List.getD_cons_zero, List.getD_cons_succ, List.length_nil]
    rw [tb (240 + r / 262144) (by omega) (by omega), tb (128 + r / 4096 % 64) (by omega) (by omega), tb (128 + r / 64 % 64) (by omega) (by omega), tb (128 + r % 64) (by omega) (by omega)]
    unfold decodeN
    rw [if_neg (by omega), if_neg (by omega), if_neg (by omega), if_pos (by omega), if_pos (by omega)]
    exact Prod.ext (by dsimp only; omega) rfl
theorem encodeRune_ne (r : Int) : encodeRune r ≠ [] := by
  intro h
  have := (encodeRuneZ_length r).1
  have h2 : (encodeRune r).length = 0 := by rw [h]; rfl
  unfold encodeRune at h2
  rw [List.length_map] at h2
  omega
theorem encodeRune_fffd : (encodeRune 65533).length = 3 := by kernel_rfl
theorem runesL_cons (r : Int) (hg : good r) (t : List UInt8) : runesL (encodeRune r ++ t) = (runesL t).map (fun x => r :: x) := by
  have hne : encodeRune r ++ t ≠ [] := by intro h; exact encodeRune_ne r (List.append_eq_nil_iff.1 h).1
  rw [runesL_step _ hne, good_decode r hg t]
  have h0 : 0 ≤ r := by unfold good at hg; omega
  have hb : bad (encodeRune r ++ t) = false := by
    unfold bad
    rw [good_decode r hg t]
    refine decide_eq_false ?_
    rintro ⟨h1, h2⟩
    dsimp only at h1 h2
    obtain rfl : r = 65533 := by omega
    rw [encodeRune_fffd] at h2
    omega
  rw [hb]
  simp only [Bool.false_eq_true, if_false, List.drop_left, Int.toNat_of_nonneg h0]
theorem runesL_enc : ∀ (l : List Int) (t : List UInt8), (∀ x ∈ l, good x) → runesL (enc l ++ t) = (runesL t).map (fun x => l ++ x)
  | [], t, _ => by simp [enc]
  | r :: l, t, h => by
    have ih := runesL_enc l t (fun x hx => h x (List.mem_cons_of_mem _ hx))
    unfold enc at ih ⊢
    rw [List.flatMap_cons, List.append_assoc, runesL_cons r (h r (List.mem_cons_self ..)), ih]
    cases runesL t <;> rfl
theorem rs_enc (l : List Int) (h : ∀ x ∈ l, good x) : runesL (enc l) = some l := by
  have := runesL_enc l [] h
  rw [List.append_nil, runesL_nil] at this
  simpa using this
theorem rs_append {a b : List UInt8} (ha : validD a = true) (hb : validD b = true) : validD (a ++ b) = true ∧ rs (a ++ b) = rs a ++ rs b := by
  have h := runesL_enc (rs a) b (rs_good a)
  rw [enc_rs ha, runesL_some hb] at h
  exact valid_of_some h
theorem enc_append (a b : List Int) : enc (a ++ b) = enc a ++ enc b := by unfold enc; rw [List.flatMap_append]

/-! The model's encoder. -/
theorem encode_eq (r : Int) (hg : good r) : (Utf8.encode r).data.toList = encodeRune r := by
  have hr : (0 ≤ r ∧ r ≤ 127) ∨ (128 ≤ r ∧ r ≤ 2047) ∨ ((2048 ≤ r ∧ r < 55296) ∨ (57343 < r ∧ r ≤ 65535)) ∨ (65536 ≤ r ∧ r ≤ 1114111) := by unfold good at hg; omega
  have hv : Utf8.valid r = true := by unfold good at hg; unfold Utf8.valid; simp; omega
  unfold Utf8.encode encodeRune
  simp only [hv, if_true]
  have b : ∀ (n : Nat) (z : Int), z = (n : Int) → UInt8.ofNat n = z.toNat.toUInt8 := by intro n z h; subst h; rfl
  rcases hr with h | h | h | h
  · rw [encodeRuneZ_one h.1 h.2, if_pos (by omega)]
    simp only [List.map_cons, List.map_nil]
  · rw [encodeRuneZ_two h.1 h.2, if_neg (by omega), if_pos (by omega)]
    simp only [List.map_cons, List.map_nil]
    rw [b _ (192 + r / 64) (by omega), b _ (128 + r % 64) (by omega)]
  · rw [encodeRuneZ_three h, if_neg (by omega), if_neg (by omega), if_pos (by omega)]
    simp only [List.map_cons, List.map_nil]
    rw [b _ (224 + r / 4096) (by omega), b _ (128 + r / 64 % 64) (by omega), b _ (128 + r % 64) (by omega)]
  · rw [encodeRuneZ_four h.1 h.2, if_neg (by omega), if_neg (by omega), if_neg (by omega)]
    simp only [List.map_cons, List.map_nil]
    rw [b _ (240 + r / 262144) (by omega), b _ (128 + r / 4096 % 64) (by omega), b _ (128 + r / 64 % 64) (by omega), b _ (128 + r % 64) (by omega)]
theorem runesBytes_from (l : List Int) (h : ∀ x ∈ l, good x) : ∀ s : ByteArray, (l.foldl (fun r n => r ++ Utf8.encode n) s).data.toList = s.data.toList ++ enc l := by
  induction l with
  | nil => intro s; simp [enc]
  | cons r l ih =>
    intro s
    rw [List.foldl_cons, ih (fun x hx => h x (List.mem_cons_of_mem _ hx))]
    have := encode_eq r (h r (List.mem_cons_self ..))
    unfold enc
    rw [List.flatMap_cons, ← this]
    simp [ByteArray.data_append]
theorem runesBytes_eq (l : List Int) (h : ∀ x ∈ l, good x) : (runesBytes l).data.toList = enc l := by
  unfold runesBytes
  rw [runesBytes_from l h]
  simp
theorem bytes_ext {a b : ByteArray} (h : a.data.toList = b.data.toList) : a = b := by
  cases a; cases b; simp at h; subst h; rfl

/-! Counting by the library's count. -/
theorem runeCountFrom_eq (s : ByteArray) : ∀ (fuel pos : Nat) (r : List Int), s.size ≤ pos + fuel → runesL (s.data.toList.drop pos) = some r → runeCountFrom s fuel pos = r.length
  | 0, pos, r, hf, h => by
    have : s.data.toList.drop pos = [] := List.drop_eq_nil_of_le (by simp; show s.size ≤ pos; omega)
    rw [this, runesL_nil] at h
    cases h
    rfl
  | f + 1, pos, r, hf, h => by
    by_cases hp : pos < s.size
    · have hne : s.data.toList.drop pos ≠ [] := by
        intro e
        have := congrArg List.length e
        rw [List.length_drop] at this
        simp at this
        have h2 : s.size - pos = 0 := this
        omega
      rw [runesL_step _ hne, decodeL_drop] at h
      by_cases hb : bad (s.data.toList.drop pos) = true
      · rw [if_pos hb] at h; cases h
      · rw [if_neg hb, List.drop_drop] at h
        obtain ⟨t, ht, rfl⟩ := Option.map_eq_some_iff.1 h
        have hw := decode_width_pos s pos hp
        unfold runeCountFrom
        rw [if_pos hp, runeCountFrom_eq s f _ t (by omega) ht]
        simp only [List.length_cons]
        omega
    · have : s.data.toList.drop pos = [] := List.drop_eq_nil_of_le (by simp; show s.size ≤ pos; omega)
      rw [this, runesL_nil] at h
      cases h
      rw [runeCountFrom_end s _ _ hp]
      rfl
theorem runeCount_eq (s : ByteArray) (h : validD s.data.toList = true) : runeCount s = (rs s.data.toList).length :=
  runeCountFrom_eq s s.size 0 _ (by omega) (by rw [List.drop_zero]; exact runesL_some h)

/-! Units, cuts, places. -/
theorem wd_pos (r : Int) : 1 ≤ wd r ∧ wd r ≤ 2 := by unfold wd; split <;> omega
theorem u16_nil : u16 [] = 0 := rfl
theorem u16_append (a b : List Int) : u16 (a ++ b) = u16 a + u16 b := by unfold u16; rw [List.map_append, List.sum_append]
theorem u16_snoc (a : List Int) (r : Int) : u16 (a ++ [r]) = u16 a + wd r := by rw [u16_append]; simp [u16]
theorem u16_le (a : List Int) : a.length ≤ u16 a ∧ u16 a ≤ 2 * a.length := by
  induction a with
  | nil => exact ⟨Nat.le_refl _, Nat.le_refl _⟩
  | cons r a ih =>
    have := wd_pos r
    unfold u16 at ih ⊢
    simp only [List.map_cons, List.sum_cons, List.length_cons]
    omega
theorem u16_take_succ (l : List Int) (k : Nat) (h : k < l.length) : u16 (l.take (k + 1)) = u16 (l.take k) + wd l[k] := by
  rw [List.take_succ_eq_append_getElem h, u16_snoc]
theorem u16_mono (l : List Int) {i j : Nat} (h : i ≤ j) : u16 (l.take i) ≤ u16 (l.take j) := by
  have : l.take j = l.take i ++ (l.take j).drop i := by
    have := (List.take_append_drop i (l.take j)).symm
    rwa [List.take_take, Nat.min_eq_left h] at this
  rw [this, u16_append]; omega
theorem u16_strict (l : List Int) {i j : Nat} (h : i < j) (hj : j ≤ l.length) : u16 (l.take i) < u16 (l.take j) := by
  have h1 := u16_take_succ l i (by omega)
  have h2 := u16_mono l (show i + 1 ≤ j by omega)
  have h3 := wd_pos (l[i]'(by omega))
  omega
def cutL (l : List Int) (a b : Int) : List Int := (l.take b.toNat).drop a.toNat
theorem cutL_zero (l : List Int) (a b : Int) : cutL (l.take 0) a b = [] := by simp [cutL]
theorem cutL_in (l : List Int) (a b : Int) (k : Nat) (hk : k < l.length) (h1 : a ≤ k) (h2 : (k : Int) < b) : cutL (l.take (k + 1)) a b = cutL (l.take k) a b ++ [l.getD k 0] := by
  unfold cutL
  rw [List.take_take, List.take_take, Nat.min_eq_right (by omega : k + 1 ≤ b.toNat), Nat.min_eq_right (by omega : k ≤ b.toNat), List.take_succ_eq_append_getElem hk, List.drop_append_of_le_length (by simp; omega)]
  simp [List.getD, hk]
theorem cutL_low (l : List Int) (a b : Int) (k : Nat) (h1 : (k : Int) < a) : cutL (l.take (k + 1)) a b = cutL (l.take k) a b := by
  unfold cutL
  rw [List.drop_eq_nil_of_le (by simp; omega), List.drop_eq_nil_of_le (by simp; omega)]
theorem cutL_high (l : List Int) (a b : Int) (k : Nat) (h2 : b ≤ (k : Int)) : cutL (l.take (k + 1)) a b = cutL (l.take k) a b := by
  unfold cutL
  rw [List.take_take, List.take_take, Nat.min_eq_left (by omega), Nat.min_eq_left (by omega)]
theorem cutL_length (l : List Int) (a b : Int) : (cutL l a b).length ≤ l.length := by unfold cutL; simp; omega
theorem cutL_good {l : List Int} (h : ∀ x ∈ l, good x) (a b : Int) : ∀ x ∈ cutL l a b, good x :=
  fun x hx => h x (List.mem_of_mem_take (List.mem_of_mem_drop hx))
/-- The place in runes of a place in units: the first that fits. -/
def p16 (l : List Int) (n : Int) : Int × Int :=
  match (List.range (l.length + 1)).find? (fun i => decide ((u16 (l.take i) : Int) = n)) with
  | some i => ((i : Int), 0)
  | none => (0, 30)
theorem p16_at (l : List Int) (n : Int) (i : Nat) (hi : i ≤ l.length) (h : (u16 (l.take i) : Int) = n) : p16 l n = ((i : Int), 0) := by
  unfold p16
  have hs : (List.range (l.length + 1)).find? (fun i => decide ((u16 (l.take i) : Int) = n)) = some i := by
    rw [List.find?_range_eq_some]
    refine ⟨by simpa using h, by simp; omega, ?_⟩
    intro j hj
    have := u16_strict l hj hi
    simp
    omega
  rw [hs]
theorem p16_none (l : List Int) (n : Int) (h : ∀ i, i ≤ l.length → (u16 (l.take i) : Int) ≠ n) : p16 l n = (0, 30) := by
  unfold p16
  have hs : (List.range (l.length + 1)).find? (fun i => decide ((u16 (l.take i) : Int) = n)) = none := by
    rw [List.find?_eq_none]
    intro i hi
    have := h i (by simp at hi; omega)
    simpa using this
  rw [hs]
theorem p16_cases (l : List Int) (n : Int) : (∃ i : Nat, i ≤ l.length ∧ (u16 (l.take i) : Int) = n ∧ p16 l n = ((i : Int), 0)) ∨ ((∀ i, i ≤ l.length → (u16 (l.take i) : Int) ≠ n) ∧ p16 l n = (0, 30)) := by
  by_cases h : ∃ i : Nat, i ≤ l.length ∧ (u16 (l.take i) : Int) = n
  · obtain ⟨i, hi, e⟩ := h
    exact .inl ⟨i, hi, e, p16_at l n i hi e⟩
  · refine .inr ⟨fun i hi e => h ⟨i, hi, e⟩, p16_none l n fun i hi e => h ⟨i, hi, e⟩⟩
def place16 (l : List UInt8) (n : Int) : Int × Int := if validD l then p16 (rs l) n else (0, 31)
def place (l : List UInt8) (n : Int) : Int × Int := if validD l then (if n < 0 ∨ ((rs l).length : Int) < n then (0, 30) else ((u16 ((rs l).take n.toNat) : Int), 0)) else (0, 31)
end Utf
namespace Utf
open Go Go.RowKit Sx
attribute [local irreducible] W Lst Qst Pu seqQ blkQ rndQ cutQ retQ Does Enters IntKind.wrap bits sb World.alloc World.putObj Blk
def acc (r0 : Int) (s : ByteArray) : Nat → Int
  | 0 => r0
  | k + 1 => acc r0 s k * 64 + sb s (k + 1) % 64
theorem acc_bound (r0 : Int) (s : ByteArray) (m : Nat) (h0 : 0 ≤ r0) (hm : r0 < m) : ∀ k, 0 ≤ acc r0 s k ∧ acc r0 s k < m * 64 ^ k
  | 0 => by simp [acc]; omega
  | k + 1 => by
    have ih := acc_bound r0 s m h0 hm k
    have := sb_lo s (k + 1)
    simp only [acc]
    rw [Int.pow_succ, ← Int.mul_assoc]
    omega
/-- What next comes to, over the bytes. -/
def nextR (s : ByteArray) (r n : Int) : Prop :=
  (bad s.data.toList = true ∧ r = 0 ∧ n = 0) ∨ (bad s.data.toList = false ∧ r = (Lib.decodeL s.data.toList).1 ∧ n = (Lib.decodeL s.data.toList).2)
theorem nextR_bad {s : ByteArray} (h : Lib.decodeL s.data.toList = (65533, 1)) : nextR s 0 0 := .inl ⟨by unfold bad; rw [h]; rfl, rfl, rfl⟩
theorem nextR_ok {s : ByteArray} {a b : Nat} {r n : Int} (h : Lib.decodeL s.data.toList = (a, b)) (hne : a ≠ 65533 ∨ b ≠ 1) (hr : r = a) (hn : n = b) : nextR s r n := by
  refine .inr ⟨?_, ?_, ?_⟩
  · unfold bad; rw [h]; exact decide_eq_false (by dsimp only; omega)
  · rw [h]; exact hr
  · rw [h]; exact hn
theorem dec (s : ByteArray) : Lib.decodeL s.data.toList = Lib.decodeN s.size (sb s 0).toNat (sb s 1).toNat (sb s 2).toNat (sb s 3).toNat := by
  rw [Lib.decodeL_N]
  have e : ∀ i, (sb s i).toNat = (s.data.toList.getD i 0).toNat := fun i => by unfold sb; omega
  rw [e, e, e, e]
  rfl

/-- The tail of the function, behind the loop: the last test. -/
theorem acc1 (r0 : Int) (s : ByteArray) : acc r0 s 1 = r0 * 64 + sb s 1 % 64 := rfl
theorem acc2 (r0 : Int) (s : ByteArray) : acc r0 s 2 = (r0 * 64 + sb s 1 % 64) * 64 + sb s 2 % 64 := rfl
theorem acc3 (r0 : Int) (s : ByteArray) : acc r0 s 3 = ((r0 * 64 + sb s 1 % 64) * 64 + sb s 2 % 64) * 64 + sb s 3 % 64 := rfl
/-- The three kinds of a first byte that begin more than one. -/
def Kind (s : ByteArray) (k : Nat) (low r : Int) : Prop :=
  (k = 1 ∧ low = 128 ∧ r = sb s 0 % 32 ∧ 194 ≤ sb s 0 ∧ sb s 0 < 224) ∨ (k = 2 ∧ low = 2048 ∧ r = sb s 0 % 16 ∧ 224 ≤ sb s 0 ∧ sb s 0 < 240) ∨ (k = 3 ∧ low = 65536 ∧ r = sb s 0 % 8 ∧ 240 ≤ sb s 0 ∧ sb s 0 < 245)
theorem kind_bound {s : ByteArray} {k : Nat} {low r : Int} (h : Kind s k low r) : ∀ j, j ≤ k → 0 ≤ acc r s j ∧ acc r s j < 33554432 := by
  intro j hj
  have b1 := acc_bound r s 32
  have b2 := acc_bound r s 16
  have b3 := acc_bound r s 8
  rcases h with ⟨rfl, _, hr, _, _⟩ | ⟨rfl, _, hr, _, _⟩ | ⟨rfl, _, hr, _, _⟩
  · have := b1 (by omega) (by omega) j
    have : j = 0 ∨ j = 1 := by omega
    rcases this with rfl | rfl <;> simp at * <;> omega
  · have := b2 (by omega) (by omega) j
    have : j = 0 ∨ j = 1 ∨ j = 2 := by omega
    rcases this with rfl | rfl | rfl <;> simp at * <;> omega
  · have := b3 (by omega) (by omega) j
    have : j = 0 ∨ j = 1 ∨ j = 2 ∨ j = 3 := by omega
    rcases this with rfl | rfl | rfl | rfl <;> simp at * <;> omega
/-- Too short, or a byte that does not go on: none. -/
theorem next_no {s : ByteArray} {k : Nat} {low r : Int} (h : Kind s k low r) (j : Nat) (h1 : 1 ≤ j) (hj : j ≤ k) (hb : s.size ≤ j ∨ sb s j / 64 ≠ 2) : nextR s 0 0 := by
  refine nextR_bad ?_
  rw [dec]
  have l0 := sb_lo s 0; have l1 := sb_lo s 1; have l2 := sb_lo s 2; have l3 := sb_lo s 3
  unfold Lib.decodeN
  have hcase : j = 1 ∨ j = 2 ∨ j = 3 := by rcases h with h | h | h <;> omega
  rcases h with ⟨rfl, _, hr, _, _⟩ | ⟨rfl, _, hr, _, _⟩ | ⟨rfl, _, hr, _, _⟩ <;> rcases hcase with rfl | rfl | rfl <;> (repeat' split) <;> first | rfl | (exfalso; omega)
theorem next_low {s : ByteArray} (h0 : sb s 0 < 128) : nextR s (sb s 0) 1 := by
  have l0 := sb_lo s 0
  refine nextR_ok (a := (sb s 0).toNat) (b := 1) ?_ (by omega) (by omega) rfl
  rw [dec]
  unfold Lib.decodeN
  rw [if_pos (by omega)]
theorem next_first {s : ByteArray} (h0 : ¬ sb s 0 < 128) (h1 : ¬ 194 ≤ sb s 0 ∨ ¬ sb s 0 < 245) : nextR s 0 0 := by
  refine nextR_bad ?_
  have l0 := sb_lo s 0; have l1 := sb_lo s 1; have l2 := sb_lo s 2; have l3 := sb_lo s 3
  have u0 := sb_hi s 0
  rw [dec]
  unfold Lib.decodeN
  (repeat' split) <;> first | rfl | (exfalso; omega)
theorem next_end {s : ByteArray} {k : Nat} {low r : Int} (h : Kind s k low r) (hl : k < s.size) (hc : ∀ j, 1 ≤ j → j ≤ k → sb s j / 64 = 2) :
    (acc r s k < low ∨ 1114111 < acc r s k ∨ (55296 ≤ acc r s k ∧ acc r s k < 57344) → nextR s 0 0) ∧
    (low ≤ acc r s k → acc r s k ≤ 1114111 → (acc r s k < 55296 ∨ 57344 ≤ acc r s k) → nextR s (acc r s k) (k + 1)) := by
  have l0 := sb_lo s 0; have l1 := sb_lo s 1; have l2 := sb_lo s 2; have l3 := sb_lo s 3
  rcases h with ⟨rfl, rfl, rfl, _, _⟩ | ⟨rfl, rfl, rfl, _, _⟩ | ⟨rfl, rfl, rfl, _, _⟩
  · have c1 := hc 1 (by omega) (by omega)
    rw [acc1]
    constructor
    · intro hb
      refine nextR_bad ?_
      rw [dec]; unfold Lib.decodeN
      (repeat' split) <;> first | rfl | (exfalso; omega)
    · intro p q t
      refine nextR_ok (a := (sb s 0 % 32 * 64 + sb s 1 % 64).toNat) (b := 2) ?_ (by omega) (by omega) rfl
      rw [dec]; unfold Lib.decodeN
      rw [if_neg (by omega), if_pos (by omega), if_pos (by omega)]
      exact Prod.ext (by dsimp only; omega) rfl
  · have c1 := hc 1 (by omega) (by omega)
    have c2 := hc 2 (by omega) (by omega)
    rw [acc2]
    constructor
    · intro hb
      refine nextR_bad ?_
      rw [dec]; unfold Lib.decodeN
      (repeat' split) <;> first | rfl | (exfalso; omega)
    · intro p q t
      refine nextR_ok (a := ((sb s 0 % 16 * 64 + sb s 1 % 64) * 64 + sb s 2 % 64).toNat) (b := 3) ?_ (by omega) (by omega) rfl
      rw [dec]; unfold Lib.decodeN
      rw [if_neg (by omega), if_neg (by omega), if_pos (by omega), if_pos (by omega)]
      exact Prod.ext (by dsimp only; omega) rfl
  · have c1 := hc 1 (by omega) (by omega)
    have c2 := hc 2 (by omega) (by omega)
    have c3 := hc 3 (by omega) (by omega)
    rw [acc3]
    constructor
    · intro hb
      refine nextR_bad ?_
      rw [dec]; unfold Lib.decodeN
      (repeat' split) <;> first | rfl | (exfalso; omega)
    · intro p q t
      refine nextR_ok (a := (((sb s 0 % 8 * 64 + sb s 1 % 64) * 64 + sb s 2 % 64) * 64 + sb s 3 % 64).toNat) (b := 4) ?_ (by omega) (by omega) rfl
      rw [dec]; unfold Lib.decodeN
      rw [if_neg (by omega), if_neg (by omega), if_neg (by omega), if_pos (by omega), if_pos (by omega)]
      exact Prod.ext (by dsimp only; omega) rfl

theorem c_next (s : ByteArray) (w : World) (h : 0 < s.size) : Does Tryd.prog 44 #[.string s] w fun v w' => (∃ r n, nextR s r n ∧ v = .tuple #[.int .i32 r, .int .i64 n]) ∧ w = w' := by
  have h0 := sb_lo s 0
  have h1 := sb_hi s 0
  refine Does_of (args := [.string s]) Tryd.func44 (by kernel_rfl) rfl rfl rfl rfl rfl ?_
  iterate 4 (apply W_seq; (repeat' (first | (apply W_region) | (apply W_block) | (apply W_skip) | (apply W_ret) | (apply W_exit) | (apply W_cond_t; (focus rfl)) | (apply W_cond_f; (focus rfl)) | (apply Lst_nil) | (apply seqQ_n) | (apply seqQ_r) | (apply seqQ_e) | (apply blkQ_n) | (apply blkQ_r) | (apply blkQ_e) | (apply blkQ_o; (focus rfl)) | (apply rndQ_r) | (apply rndQ_e) | (apply cutQ_r) | (apply cutQ_e) | (apply Lst_guard_t; (focus rfl); (focus rfl)) | (apply Lst_guard_f; (focus rfl); (focus rfl); (focus rfl); (focus rfl)) | (apply Lst_guard_u; (focus rfl); (focus rfl); (focus rfl)) | (apply Lst_rangeS; (focus rfl); (focus rfl); (focus ((try simp only [Sx.sizes]); first | done | rfl)); (focus rfl)) | (apply Lst_alloc; (focus rfl); (focus rfl); (focus rfl); (focus ((try simp only [Sx.sizes]); first | done | rfl)); (focus rfl)) | (apply Lst_box; (focus constructor); (focus rfl); (focus ((try simp only [Sx.sizes]); first | done | rfl)); (focus rfl)) | (apply Lst_load; (focus rfl); (focus rfl); (focus rfl); (focus ((repeat (first | assumption | (apply Blk.below (hb := hb1); rotate_left; (focus ((try simp only [Sx.sizes]); omega)); rotate_right) | (apply Blk.below (hb := hb2); rotate_left; (focus ((try simp only [Sx.sizes]); omega)); rotate_right) | (apply Blk.below (hb := hb3); rotate_left; (focus ((try simp only [Sx.sizes]); omega)); rotate_right) | (apply Blk.below (hb := hb4); rotate_left; (focus ((try simp only [Sx.sizes]); omega)); rotate_right) | (apply Blk.below (hb := hb5); rotate_left; (focus ((try simp only [Sx.sizes]); omega)); rotate_right) | (apply Blk.below (hb := hb6); rotate_left; (focus ((try simp only [Sx.sizes]); omega)); rotate_right) | (apply Blk.below (hb := hb7); rotate_left; (focus ((try simp only [Sx.sizes]); omega)); rotate_right) | (apply Blk.below (hb := hb8); rotate_left; (focus ((try simp only [Sx.sizes]); omega)); rotate_right) | (apply Blk.below (hb := hb9); rotate_left; (focus ((try simp only [Sx.sizes]); omega)); rotate_right) | exact Blk.newE (by first | rfl | ((try simp only [Sx.sizes]); first | done | omega)) _ _ | exact Blk.put_same (by (try simp only [Sx.sizes]); first | done | omega) _ _ | (apply Blk.put_ne; (focus omega)) | apply Blk.alloc | apply Blk.drew)); done)); (focus rfl); (focus rfl)) | (apply Lst_loadc; (focus rfl); (focus rfl); (focus rfl); (focus assumption); (focus rfl)) | (apply Lst_store; (focus rfl); (focus constructor); (focus rfl); (focus rfl); (focus rfl); (focus rfl); (focus ((repeat (first | assumption | (apply Blk.below (hb := hb1); rotate_left; (focus ((try simp only [Sx.sizes]); omega)); rotate_right) | (apply Blk.below (hb := hb2); rotate_left; (focus ((try simp only [Sx.sizes]); omega)); rotate_right) | (apply Blk.below (hb := hb3); rotate_left; (focus ((try simp only [Sx.sizes]); omega)); rotate_right) | (apply Blk.below (hb := hb4); rotate_left; (focus ((try simp only [Sx.sizes]); omega)); rotate_right) | (apply Blk.below (hb := hb5); rotate_left; (focus ((try simp only [Sx.sizes]); omega)); rotate_right) | (apply Blk.below (hb := hb6); rotate_left; (focus ((try simp only [Sx.sizes]); omega)); rotate_right) | (apply Blk.below (hb := hb7); rotate_left; (focus ((try simp only [Sx.sizes]); omega)); rotate_right) | (apply Blk.below (hb := hb8); rotate_left; (focus ((try simp only [Sx.sizes]); omega)); rotate_right) | (apply Blk.below (hb := hb9); rotate_left; (focus ((try simp only [Sx.sizes]); omega)); rotate_right) | exact Blk.newE (by first | rfl | ((try simp only [Sx.sizes]); first | done | omega)) _ _ | exact Blk.put_same (by (try simp only [Sx.sizes]); first | done | omega) _ _ | (apply Blk.put_ne; (focus omega)) | apply Blk.alloc | apply Blk.drew)); done)); (focus ((repeat constructor); done))) | (apply Lst_pu; (focus (first | (apply P_neg; (focus rfl); (focus (first | assumption | exact wi64 (by omega) (by omega) | exact wu64 (by omega) (by omega) | exact wi32 (by omega) (by omega) | exact wu8 (by omega) (by omega) | rfl))) | (apply P_move; (focus constructor)) | (apply P_assign; (focus constructor)) | (apply P_ar; (focus rfl); (focus rfl); (focus rfl); (focus (first | assumption | exact wi64 (by omega) (by omega) | exact wu64 (by omega) (by omega) | exact wi32 (by omega) (by omega) | exact wu8 (by omega) (by omega) | rfl))) | (apply P_ct; (focus rfl); (focus rfl); (focus rfl); (focus (dsimp only [cmpP]; first | done | omega))) | (apply P_cf; (focus rfl); (focus rfl); (focus rfl); (focus (dsimp only [cmpP]; first | done | omega))) | (apply P_pick_t; (focus rfl); (focus constructor)) | (apply P_pick_f; (focus rfl); (focus constructor)) | (apply P_extract; (focus rfl); (focus rfl)) | (apply P_not; (focus rfl); (focus rfl)) | (apply P_slen; (focus rfl); (focus rfl)) | (apply P_llen; (focus rfl); (focus rfl)) | (apply P_beq; (focus rfl); (focus rfl); (focus rfl); (focus (first | exact beq_self_eq_true _ | rfl))) | (apply P_bne; (focus rfl); (focus rfl); (focus rfl); (focus (first | exact bne_self_eq_false _ | rfl))) | (apply P_sadd; (focus rfl); (focus rfl); (focus omega)) | (apply P_max; (focus rfl); (focus rfl)) | (apply P_min; (focus rfl); (focus rfl)) | (apply P_idx1; (focus rfl); (focus rfl); (focus rfl); (focus rfl); (focus rfl); (focus omega)) | (apply P_nilCheck; (focus rfl)) | (apply P_conv; (focus rfl); (focus rfl); (focus rfl); (focus (first | assumption | exact wi64 (by omega) (by omega) | exact wu64 (by omega) (by omega) | exact wi32 (by omega) (by omega) | exact wu8 (by omega) (by omega) | rfl))) | (apply P_sindex0; (focus rfl); (focus rfl); (focus rfl); (focus omega)) | (apply P_sindexN; (focus rfl); (focus rfl); (focus rfl); (focus omega)) | (apply P_sindex; (focus rfl); (focus rfl); (focus rfl); (focus omega); (focus omega)) | (apply P_makeFunc; (focus (repeat constructor)); (focus (repeat constructor))) | (apply P_seq_t; (focus rfl); (focus rfl); (focus (first | assumption | rfl))) | (apply P_seq_f; (focus rfl); (focus rfl); (focus assumption)) | (apply P_sne_t; (focus rfl); (focus rfl); (focus assumption)) | (apply P_sne_f; (focus rfl); (focus rfl); (focus (first | assumption | rfl))))); (focus rfl)))))
  refine W_cut (α := Nat × Int × Int) (fun x => [(0, .string s), (5, .int .i64 ((x.1 : Int) + 1)), (6, .int .i32 x.2.1), (7, .int .i32 x.2.2)]) (fun x w' => Kind s x.1 x.2.1 x.2.2 ∧ w = w') ?_ ?_
  · (repeat' (first | (apply W_seq) | (apply W_region) | (apply W_block) | (apply W_skip) | (apply W_ret) | (apply W_exit) | (apply W_cond_t; (focus rfl)) | (apply W_cond_f; (focus rfl)) | (apply Lst_nil) | (apply seqQ_n) | (apply seqQ_r) | (apply seqQ_e) | (apply blkQ_n) | (apply blkQ_r) | (apply blkQ_e) | (apply blkQ_o; (focus rfl)) | (apply rndQ_r) | (apply rndQ_e) | (apply cutQ_r) | (apply cutQ_e) | (apply Lst_guard_t; (focus rfl); (focus rfl)) | (apply Lst_guard_f; (focus rfl); (focus rfl); (focus rfl); (focus rfl)) | (apply Lst_guard_u; (focus rfl); (focus rfl); (focus rfl)) | (apply Lst_rangeS; (focus rfl); (focus rfl); (focus ((try simp only [Sx.sizes]); first | done | rfl)); (focus rfl)) | (apply Lst_alloc; (focus rfl); (focus rfl); (focus rfl); (focus ((try simp only [Sx.sizes]); first | done | rfl)); (focus rfl)) | (apply Lst_box; (focus constructor); (focus rfl); (focus ((try simp only [Sx.sizes]); first | done | rfl)); (focus rfl)) | (apply Lst_load; (focus rfl); (focus rfl); (focus rfl); (focus ((repeat (first | assumption | (apply Blk.below (hb := hb1); rotate_left; (focus ((try simp only [Sx.sizes]); omega)); rotate_right) | (apply Blk.below (hb := hb2); rotate_left; (focus ((try simp only [Sx.sizes]); omega)); rotate_right) | (apply Blk.below (hb := hb3); rotate_left; (focus ((try simp only [Sx.sizes]); omega)); rotate_right) | (apply Blk.below (hb := hb4); rotate_left; (focus ((try simp only [Sx.sizes]); omega)); rotate_right) | (apply Blk.below (hb := hb5); rotate_left; (focus ((try simp only [Sx.sizes]); omega)); rotate_right) | (apply Blk.below (hb := hb6); rotate_left; (focus ((try simp only [Sx.sizes]); omega)); rotate_right) | (apply Blk.below (hb := hb7); rotate_left; (focus ((try simp only [Sx.sizes]); omega)); rotate_right) | (apply Blk.below (hb := hb8); rotate_left; (focus ((try simp only [Sx.sizes]); omega)); rotate_right) | (apply Blk.below (hb := hb9); rotate_left; (focus ((try simp only [Sx.sizes]); omega)); rotate_right) | exact Blk.newE (by first | rfl | ((try simp only [Sx.sizes]); first | done | omega)) _ _ | exact Blk.put_same (by (try simp only [Sx.sizes]); first | done | omega) _ _ | (apply Blk.put_ne; (focus omega)) | apply Blk.alloc | apply Blk.drew)); done)); (focus rfl); (focus rfl)) | (apply Lst_loadc; (focus rfl); (focus rfl); (focus rfl); (focus assumption); (focus rfl)) | (apply Lst_store; (focus rfl); (focus constructor); (focus rfl); (focus rfl); (focus rfl); (focus rfl); (focus ((repeat (first | assumption | (apply Blk.below (hb := hb1); rotate_left; (focus ((try simp only [Sx.sizes]); omega)); rotate_right) | (apply Blk.below (hb := hb2); rotate_left; (focus ((try simp only [Sx.sizes]); omega)); rotate_right) | (apply Blk.below (hb := hb3); rotate_left; (focus ((try simp only [Sx.sizes]); omega)); rotate_right) | (apply Blk.below (hb := hb4); rotate_left; (focus ((try simp only [Sx.sizes]); omega)); rotate_right) | (apply Blk.below (hb := hb5); rotate_left; (focus ((try simp only [Sx.sizes]); omega)); rotate_right) | (apply Blk.below (hb := hb6); rotate_left; (focus ((try simp only [Sx.sizes]); omega)); rotate_right) | (apply Blk.below (hb := hb7); rotate_left; (focus ((try simp only [Sx.sizes]); omega)); rotate_right) | (apply Blk.below (hb := hb8); rotate_left; (focus ((try simp only [Sx.sizes]); omega)); rotate_right) | (apply Blk.below (hb := hb9); rotate_left; (focus ((try simp only [Sx.sizes]); omega)); rotate_right) | exact Blk.newE (by first | rfl | ((try simp only [Sx.sizes]); first | done | omega)) _ _ | exact Blk.put_same (by (try simp only [Sx.sizes]); first | done | omega) _ _ | (apply Blk.put_ne; (focus omega)) | apply Blk.alloc | apply Blk.drew)); done)); (focus ((repeat constructor); done))) | (apply Lst_pu; (focus (first | (apply P_neg; (focus rfl); (focus (first | assumption | exact wi64 (by omega) (by omega) | exact wu64 (by omega) (by omega) | exact wi32 (by omega) (by omega) | exact wu8 (by omega) (by omega) | rfl))) | (apply P_move; (focus constructor)) | (apply P_assign; (focus constructor)) | (apply P_ar; (focus rfl); (focus rfl); (focus rfl); (focus (first | assumption | exact wi64 (by omega) (by omega) | exact wu64 (by omega) (by omega) | exact wi32 (by omega) (by omega) | exact wu8 (by omega) (by omega) | rfl))) | (apply P_ct; (focus rfl); (focus rfl); (focus rfl); (focus (dsimp only [cmpP]; first | done | omega))) | (apply P_cf; (focus rfl); (focus rfl); (focus rfl); (focus (dsimp only [cmpP]; first | done | omega))) | (apply P_pick_t; (focus rfl); (focus constructor)) | (apply P_pick_f; (focus rfl); (focus constructor)) | (apply P_extract; (focus rfl); (focus rfl)) | (apply P_not; (focus rfl); (focus rfl)) | (apply P_slen; (focus rfl); (focus rfl)) | (apply P_llen; (focus rfl); (focus rfl)) | (apply P_beq; (focus rfl); (focus rfl); (focus rfl); (focus (first | exact beq_self_eq_true _ | rfl))) | (apply P_bne; (focus rfl); (focus rfl); (focus rfl); (focus (first | exact bne_self_eq_false _ | rfl))) | (apply P_sadd; (focus rfl); (focus rfl); (focus omega)) | (apply P_max; (focus rfl); (focus rfl)) | (apply P_min; (focus rfl); (focus rfl)) | (apply P_idx1; (focus rfl); (focus rfl); (focus rfl); (focus rfl); (focus rfl); (focus omega)) | (apply P_nilCheck; (focus rfl)) | (apply P_conv; (focus rfl); (focus rfl); (focus rfl); (focus (first | assumption | exact wi64 (by omega) (by omega) | exact wu64 (by omega) (by omega) | exact wi32 (by omega) (by omega) | exact wu8 (by omega) (by omega) | rfl))) | (apply P_sindex0; (focus rfl); (focus rfl); (focus rfl); (focus omega)) | (apply P_sindexN; (focus rfl); (focus rfl); (focus rfl); (focus omega)) | (apply P_sindex; (focus rfl); (focus rfl); (focus rfl); (focus omega); (focus omega)) | (apply P_makeFunc; (focus (repeat constructor)); (focus (repeat constructor))) | (apply P_seq_t; (focus rfl); (focus rfl); (focus (first | assumption | rfl))) | (apply P_seq_f; (focus rfl); (focus rfl); (focus assumption)) | (apply P_sne_t; (focus rfl); (focus rfl); (focus assumption)) | (apply P_sne_f; (focus rfl); (focus rfl); (focus (first | assumption | rfl))) | (apply P_lslice; (focus rfl); (focus rfl); (focus rfl); (focus rfl); (focus rfl); (focus rfl); (focus omega); (focus omega); (focus omega)) | (apply P_lslice_hi; (focus rfl); (focus rfl); (focus rfl); (focus rfl); (focus rfl); (focus omega); (focus omega)) | (apply P_lslice_lo; (focus rfl); (focus rfl); (focus rfl); (focus rfl); (focus rfl); (focus omega); (focus omega)) | (apply P_sslice_lo; (focus rfl); (focus rfl); (focus rfl); (focus omega); (focus omega)) | (apply P_sslice_hi; (focus rfl); (focus rfl); (focus rfl); (focus omega); (focus omega)) | (apply P_sslice; (focus rfl); (focus rfl); (focus rfl); (focus rfl); (focus omega); (focus omega); (focus omega)) | (apply P_quo; (focus rfl); (focus rfl); (focus omega); (focus rfl)) | (apply P_rem; (focus rfl); (focus rfl); (focus omega); (focus rfl)) | (apply P_and; (focus rfl); (focus rfl); (focus (first | assumption | exact u8_and63 _ (by omega) (by omega) | exact u8_and31 _ (by omega) (by omega) | exact u8_and15 _ (by omega) (by omega) | exact u8_and7 _ (by omega) (by omega) | exact and192 (by omega) (by omega) | rfl))) | (apply P_or; (focus rfl); (focus rfl); (focus (first | assumption | exact i32_or6 _ _ (by omega) (by omega) (by omega) (by omega) (by omega) | rfl))) | (apply P_xor; (focus rfl); (focus rfl); (focus rfl)) | (apply P_shl_1; (focus rfl); (focus rfl); (focus rfl); (focus (first | assumption | exact wi64 (by omega) (by omega) | exact wu64 (by omega) (by omega) | exact wi32 (by omega) (by omega) | exact wu8 (by omega) (by omega) | rfl))) | (apply P_shl_2; (focus rfl); (focus rfl); (focus rfl); (focus (first | assumption | exact wi64 (by omega) (by omega) | exact wu64 (by omega) (by omega) | exact wi32 (by omega) (by omega) | exact wu8 (by omega) (by omega) | rfl))) | (apply P_shl_3; (focus rfl); (focus rfl); (focus rfl); (focus (first | assumption | exact wi64 (by omega) (by omega) | exact wu64 (by omega) (by omega) | exact wi32 (by omega) (by omega) | exact wu8 (by omega) (by omega) | rfl))) | (apply P_shl_4; (focus rfl); (focus rfl); (focus rfl); (focus (first | assumption | exact wi64 (by omega) (by omega) | exact wu64 (by omega) (by omega) | exact wi32 (by omega) (by omega) | exact wu8 (by omega) (by omega) | rfl))) | (apply P_shl_5; (focus rfl); (focus rfl); (focus rfl); (focus (first | assumption | exact wi64 (by omega) (by omega) | exact wu64 (by omega) (by omega) | exact wi32 (by omega) (by omega) | exact wu8 (by omega) (by omega) | rfl))) | (apply P_shl_6; (focus rfl); (focus rfl); (focus rfl); (focus (first | assumption | exact wi64 (by omega) (by omega) | exact wu64 (by omega) (by omega) | exact wi32 (by omega) (by omega) | exact wu8 (by omega) (by omega) | rfl))) | (apply P_shl_7; (focus rfl); (focus rfl); (focus rfl); (focus (first | assumption | exact wi64 (by omega) (by omega) | exact wu64 (by omega) (by omega) | exact wi32 (by omega) (by omega) | exact wu8 (by omega) (by omega) | rfl))) | (apply P_shl_8; (focus rfl); (focus rfl); (focus rfl); (focus (first | assumption | exact wi64 (by omega) (by omega) | exact wu64 (by omega) (by omega) | exact wi32 (by omega) (by omega) | exact wu8 (by omega) (by omega) | rfl))) | (apply P_shl_16; (focus rfl); (focus rfl); (focus rfl); (focus (first | assumption | exact wi64 (by omega) (by omega) | exact wu64 (by omega) (by omega) | exact wi32 (by omega) (by omega) | exact wu8 (by omega) (by omega) | rfl))) | (apply P_shl_24; (focus rfl); (focus rfl); (focus rfl); (focus (first | assumption | exact wi64 (by omega) (by omega) | exact wu64 (by omega) (by omega) | exact wi32 (by omega) (by omega) | exact wu8 (by omega) (by omega) | rfl))) | (apply P_shl_32; (focus rfl); (focus rfl); (focus rfl); (focus (first | assumption | exact wi64 (by omega) (by omega) | exact wu64 (by omega) (by omega) | exact wi32 (by omega) (by omega) | exact wu8 (by omega) (by omega) | rfl))) | (apply P_shl_40; (focus rfl); (focus rfl); (focus rfl); (focus (first | assumption | exact wi64 (by omega) (by omega) | exact wu64 (by omega) (by omega) | exact wi32 (by omega) (by omega) | exact wu8 (by omega) (by omega) | rfl))) | (apply P_shl_48; (focus rfl); (focus rfl); (focus rfl); (focus (first | assumption | exact wi64 (by omega) (by omega) | exact wu64 (by omega) (by omega) | exact wi32 (by omega) (by omega) | exact wu8 (by omega) (by omega) | rfl))) | (apply P_shl_56; (focus rfl); (focus rfl); (focus rfl); (focus (first | assumption | exact wi64 (by omega) (by omega) | exact wu64 (by omega) (by omega) | exact wi32 (by omega) (by omega) | exact wu8 (by omega) (by omega) | rfl))) | (apply P_shr_1; (focus rfl); (focus rfl); (focus rfl)) | (apply P_shr_2; (focus rfl); (focus rfl); (focus rfl)) | (apply P_shr_3; (focus rfl); (focus rfl); (focus rfl)) | (apply P_shr_4; (focus rfl); (focus rfl); (focus rfl)) | (apply P_shr_5; (focus rfl); (focus rfl); (focus rfl)) | (apply P_shr_6; (focus rfl); (focus rfl); (focus rfl)) | (apply P_shr_7; (focus rfl); (focus rfl); (focus rfl)) | (apply P_shr_8; (focus rfl); (focus rfl); (focus rfl)) | (apply P_shr_16; (focus rfl); (focus rfl); (focus rfl)) | (apply P_shr_24; (focus rfl); (focus rfl); (focus rfl)) | (apply P_shr_32; (focus rfl); (focus rfl); (focus rfl)) | (apply P_shr_40; (focus rfl); (focus rfl); (focus rfl)) | (apply P_shr_48; (focus rfl); (focus rfl); (focus rfl)) | (apply P_shr_56; (focus rfl); (focus rfl); (focus rfl)))); (focus rfl)) | (apply Lst_cs; (focus rfl); (focus rfl); (focus rfl); (focus rfl); all_goals (intro hc; dsimp only [cmpP] at hc))))
    · exact retQ2 rfl rfl ⟨⟨_, _, next_low hc, rfl⟩, rfl⟩
    · exact cutQ_n (1, 128, sb s 0 % 32) ⟨.inl ⟨rfl, rfl, rfl, by assumption, by assumption⟩, rfl⟩ ⟨rfl, rfl, rfl, rfl, trivial⟩
    · exact cutQ_n (2, 2048, sb s 0 % 16) ⟨.inr (.inl ⟨rfl, rfl, rfl, by omega, by omega⟩), rfl⟩ ⟨rfl, rfl, rfl, rfl, trivial⟩
    · exact cutQ_n (3, 65536, sb s 0 % 8) ⟨.inr (.inr ⟨rfl, rfl, rfl, by omega, by omega⟩), rfl⟩ ⟨rfl, rfl, rfl, rfl, trivial⟩
    · exact retQ2 rfl rfl ⟨⟨_, _, next_first (by omega) (by omega), rfl⟩, rfl⟩
    · exact retQ2 rfl rfl ⟨⟨_, _, next_first (by omega) (by omega), rfl⟩, rfl⟩
  · rintro J ⟨k, low, r⟩ w' ⟨hk, rfl⟩
    dsimp only at hk ⊢
    have hb := kind_bound hk
    have hk3 : 1 ≤ k ∧ k ≤ 3 := by rcases hk with h | h | h <;> omega
    (repeat' (first | (apply W_seq) | (apply W_region) | (apply W_block) | (apply W_skip) | (apply W_ret) | (apply W_exit) | (apply W_cond_t; (focus rfl)) | (apply W_cond_f; (focus rfl)) | (apply Lst_nil) | (apply seqQ_n) | (apply seqQ_r) | (apply seqQ_e) | (apply blkQ_n) | (apply blkQ_r) | (apply blkQ_e) | (apply blkQ_o; (focus rfl)) | (apply rndQ_r) | (apply rndQ_e) | (apply cutQ_r) | (apply cutQ_e) | (apply Lst_guard_t; (focus rfl); (focus rfl)) | (apply Lst_guard_f; (focus rfl); (focus rfl); (focus rfl); (focus rfl)) | (apply Lst_guard_u; (focus rfl); (focus rfl); (focus rfl)) | (apply Lst_rangeS; (focus rfl); (focus rfl); (focus ((try simp only [Sx.sizes]); first | done | rfl)); (focus rfl)) | (apply Lst_alloc; (focus rfl); (focus rfl); (focus rfl); (focus ((try simp only [Sx.sizes]); first | done | rfl)); (focus rfl)) | (apply Lst_box; (focus constructor); (focus rfl); (focus ((try simp only [Sx.sizes]); first | done | rfl)); (focus rfl)) | (apply Lst_load; (focus rfl); (focus rfl); (focus rfl); (focus ((repeat (first | assumption | (apply Blk.below (hb := hb1); rotate_left; (focus ((try simp only [Sx.sizes]); omega)); rotate_right) | (apply Blk.below (hb := hb2); rotate_left; (focus ((try simp only [Sx.sizes]); omega)); rotate_right) | (apply Blk.below (hb := hb3); rotate_left; (focus ((try simp only [Sx.sizes]); omega)); rotate_right) | (apply Blk.below (hb := hb4); rotate_left; (focus ((try simp only [Sx.sizes]); omega)); rotate_right) | (apply Blk.below (hb := hb5); rotate_left; (focus ((try simp only [Sx.sizes]); omega)); rotate_right) | (apply Blk.below (hb := hb6); rotate_left; (focus ((try simp only [Sx.sizes]); omega)); rotate_right) | (apply Blk.below (hb := hb7); rotate_left; (focus ((try simp only [Sx.sizes]); omega)); rotate_right) | (apply Blk.below (hb := hb8); rotate_left; (focus ((try simp only [Sx.sizes]); omega)); rotate_right) | (apply Blk.below (hb := hb9); rotate_left; (focus ((try simp only [Sx.sizes]); omega)); rotate_right) | exact Blk.newE (by first | rfl | ((try simp only [Sx.sizes]); first | done | omega)) _ _ | exact Blk.put_same (by (try simp only [Sx.sizes]); first | done | omega) _ _ | (apply Blk.put_ne; (focus omega)) | apply Blk.alloc | apply Blk.drew)); done)); (focus rfl); (focus rfl)) | (apply Lst_loadc; (focus rfl); (focus rfl); (focus rfl); (focus assumption); (focus rfl)) | (apply Lst_store; (focus rfl); (focus constructor); (focus rfl); (focus rfl); (focus rfl); (focus rfl); (focus ((repeat (first | assumption | (apply Blk.below (hb := hb1); rotate_left; (focus ((try simp only [Sx.sizes]); omega)); rotate_right) | (apply Blk.below (hb := hb2); rotate_left; (focus ((try simp only [Sx.sizes]); omega)); rotate_right) | (apply Blk.below (hb := hb3); rotate_left; (focus ((try simp only [Sx.sizes]); omega)); rotate_right) | (apply Blk.below (hb := hb4); rotate_left; (focus ((try simp only [Sx.sizes]); omega)); rotate_right) | (apply Blk.below (hb := hb5); rotate_left; (focus ((try simp only [Sx.sizes]); omega)); rotate_right) | (apply Blk.below (hb := hb6); rotate_left; (focus ((try simp only [Sx.sizes]); omega)); rotate_right) | (apply Blk.below (hb := hb7); rotate_left; (focus ((try simp only [Sx.sizes]); omega)); rotate_right) | (apply Blk.below (hb := hb8); rotate_left; (focus ((try simp only [Sx.sizes]); omega)); rotate_right) | (apply Blk.below (hb := hb9); rotate_left; (focus ((try simp only [Sx.sizes]); omega)); rotate_right) | exact Blk.newE (by first | rfl | ((try simp only [Sx.sizes]); first | done | omega)) _ _ | exact Blk.put_same (by (try simp only [Sx.sizes]); first | done | omega) _ _ | (apply Blk.put_ne; (focus omega)) | apply Blk.alloc | apply Blk.drew)); done)); (focus ((repeat constructor); done))) | (apply Lst_pu; (focus (first | (apply P_neg; (focus rfl); (focus (first | assumption | exact wi64 (by omega) (by omega) | exact wu64 (by omega) (by omega) | exact wi32 (by omega) (by omega) | exact wu8 (by omega) (by omega) | rfl))) | (apply P_move; (focus constructor)) | (apply P_assign; (focus constructor)) | (apply P_ar; (focus rfl); (focus rfl); (focus rfl); (focus (first | assumption | exact wi64 (by omega) (by omega) | exact wu64 (by omega) (by omega) | exact wi32 (by omega) (by omega) | exact wu8 (by omega) (by omega) | rfl))) | (apply P_ct; (focus rfl); (focus rfl); (focus rfl); (focus (dsimp only [cmpP]; first | done | omega))) | (apply P_cf; (focus rfl); (focus rfl); (focus rfl); (focus (dsimp only [cmpP]; first | done | omega))) | (apply P_pick_t; (focus rfl); (focus constructor)) | (apply P_pick_f; (focus rfl); (focus constructor)) | (apply P_extract; (focus rfl); (focus rfl)) | (apply P_not; (focus rfl); (focus rfl)) | (apply P_slen; (focus rfl); (focus rfl)) | (apply P_llen; (focus rfl); (focus rfl)) | (apply P_beq; (focus rfl); (focus rfl); (focus rfl); (focus (first | exact beq_self_eq_true _ | rfl))) | (apply P_bne; (focus rfl); (focus rfl); (focus rfl); (focus (first | exact bne_self_eq_false _ | rfl))) | (apply P_sadd; (focus rfl); (focus rfl); (focus omega)) | (apply P_max; (focus rfl); (focus rfl)) | (apply P_min; (focus rfl); (focus rfl)) | (apply P_idx1; (focus rfl); (focus rfl); (focus rfl); (focus rfl); (focus rfl); (focus omega)) | (apply P_nilCheck; (focus rfl)) | (apply P_conv; (focus rfl); (focus rfl); (focus rfl); (focus (first | assumption | exact wi64 (by omega) (by omega) | exact wu64 (by omega) (by omega) | exact wi32 (by omega) (by omega) | exact wu8 (by omega) (by omega) | rfl))) | (apply P_sindex0; (focus rfl); (focus rfl); (focus rfl); (focus omega)) | (apply P_sindexN; (focus rfl); (focus rfl); (focus rfl); (focus omega)) | (apply P_sindex; (focus rfl); (focus rfl); (focus rfl); (focus omega); (focus omega)) | (apply P_makeFunc; (focus (repeat constructor)); (focus (repeat constructor))) | (apply P_seq_t; (focus rfl); (focus rfl); (focus (first | assumption | rfl))) | (apply P_seq_f; (focus rfl); (focus rfl); (focus assumption)) | (apply P_sne_t; (focus rfl); (focus rfl); (focus assumption)) | (apply P_sne_f; (focus rfl); (focus rfl); (focus (first | assumption | rfl))))); (focus rfl)) | (apply Lst_cs; (focus rfl); (focus rfl); (focus rfl); (focus rfl); all_goals (intro hc; dsimp only [cmpP] at hc))))
    · exact retQ2 rfl rfl ⟨⟨_, _, next_no hk k hk3.1 (Nat.le_refl _) (by omega), rfl⟩, rfl⟩
    · refine W_loop (α := Nat) (fun j => [(0, .string s), (5, .int .i64 ((k : Int) + 1)), (6, .int .i32 low), (7, .int .i32 (acc r s j)), (8, .int .i64 ((j + 1 : Nat) : Int))]) (fun j w' => j ≤ k ∧ (∀ i, 1 ≤ i → i ≤ j → sb s i / 64 = 2) ∧ w = w') (fun j _ => k - j) 0 ⟨by omega, by omega, rfl⟩ ⟨rfl, rfl, rfl, rfl, rfl, trivial⟩ ?_
      rintro J j w' ⟨hj, hcs, rfl⟩
      have hbj := hb j hj
      have l1 := sb_lo s (j + 1)
      have u1 := sb_hi s (j + 1)
      have fin := fun e : j = k => next_end (e ▸ hk) (by omega) (e ▸ hcs)
      (repeat' (first | (apply W_seq) | (apply W_region) | (apply W_block) | (apply W_skip) | (apply W_ret) | (apply W_exit) | (apply W_cond_t; (focus rfl)) | (apply W_cond_f; (focus rfl)) | (apply Lst_nil) | (apply seqQ_n) | (apply seqQ_r) | (apply seqQ_e) | (apply blkQ_n) | (apply blkQ_r) | (apply blkQ_e) | (apply blkQ_o; (focus rfl)) | (apply rndQ_r) | (apply rndQ_e) | (apply cutQ_r) | (apply cutQ_e) | (apply Lst_guard_t; (focus rfl); (focus rfl)) | (apply Lst_guard_f; (focus rfl); (focus rfl); (focus rfl); (focus rfl)) | (apply Lst_guard_u; (focus rfl); (focus rfl); (focus rfl)) | (apply Lst_rangeS; (focus rfl); (focus rfl); (focus ((try simp only [Sx.sizes]); first | done | rfl)); (focus rfl)) | (apply Lst_alloc; (focus rfl); (focus rfl); (focus rfl); (focus ((try simp only [Sx.sizes]); first | done | rfl)); (focus rfl)) | (apply Lst_box; (focus constructor); (focus rfl); (focus ((try simp only [Sx.sizes]); first | done | rfl)); (focus rfl)) | (apply Lst_load; (focus rfl); (focus rfl); (focus rfl); (focus ((repeat (first | assumption | (apply Blk.below (hb := hb1); rotate_left; (focus ((try simp only [Sx.sizes]); omega)); rotate_right) | (apply Blk.below (hb := hb2); rotate_left; (focus ((try simp only [Sx.sizes]); omega)); rotate_right) | (apply Blk.below (hb := hb3); rotate_left; (focus ((try simp only [Sx.sizes]); omega)); rotate_right) | (apply Blk.below (hb := hb4); rotate_left; (focus ((try simp only [Sx.sizes]); omega)); rotate_right) | (apply Blk.below (hb := hb5); rotate_left; (focus ((try simp only [Sx.sizes]); omega)); rotate_right) | (apply Blk.below (hb := hb6); rotate_left; (focus ((try simp only [Sx.sizes]); omega)); rotate_right) | (apply Blk.below (hb := hb7); rotate_left; (focus ((try simp only [Sx.sizes]); omega)); rotate_right) | (apply Blk.below (hb := hb8); rotate_left; (focus ((try simp only [Sx.sizes]); omega)); rotate_right) | (apply Blk.below (hb := hb9); rotate_left; (focus ((try simp only [Sx.sizes]); omega)); rotate_right) | exact Blk.newE (by first | rfl | ((try simp only [Sx.sizes]); first | done | omega)) _ _ | exact Blk.put_same (by (try simp only [Sx.sizes]); first | done | omega) _ _ | (apply Blk.put_ne; (focus omega)) | apply Blk.alloc | apply Blk.drew)); done)); (focus rfl); (focus rfl)) | (apply Lst_loadc; (focus rfl); (focus rfl); (focus rfl); (focus assumption); (focus rfl)) | (apply Lst_store; (focus rfl); (focus constructor); (focus rfl); (focus rfl); (focus rfl); (focus rfl); (focus ((repeat (first | assumption | (apply Blk.below (hb := hb1); rotate_left; (focus ((try simp only [Sx.sizes]); omega)); rotate_right) | (apply Blk.below (hb := hb2); rotate_left; (focus ((try simp only [Sx.sizes]); omega)); rotate_right) | (apply Blk.below (hb := hb3); rotate_left; (focus ((try simp only [Sx.sizes]); omega)); rotate_right) | (apply Blk.below (hb := hb4); rotate_left; (focus ((try simp only [Sx.sizes]); omega)); rotate_right) | (apply Blk.below (hb := hb5); rotate_left; (focus ((try simp only [Sx.sizes]); omega)); rotate_right) | (apply Blk.below (hb := hb6); rotate_left; (focus ((try simp only [Sx.sizes]); omega)); rotate_right) | (apply Blk.below (hb := hb7); rotate_left; (focus ((try simp only [Sx.sizes]); omega)); rotate_right) | (apply Blk.below (hb := hb8); rotate_left; (focus ((try simp only [Sx.sizes]); omega)); rotate_right) | (apply Blk.below (hb := hb9); rotate_left; (focus ((try simp only [Sx.sizes]); omega)); rotate_right) | exact Blk.newE (by first | rfl | ((try simp only [Sx.sizes]); first | done | omega)) _ _ | exact Blk.put_same (by (try simp only [Sx.sizes]); first | done | omega) _ _ | (apply Blk.put_ne; (focus omega)) | apply Blk.alloc | apply Blk.drew)); done)); (focus ((repeat constructor); done))) | (apply Lst_pu; (focus (first | (apply P_neg; (focus rfl); (focus (first | assumption | exact wi64 (by omega) (by omega) | exact wu64 (by omega) (by omega) | exact wi32 (by omega) (by omega) | exact wu8 (by omega) (by omega) | rfl))) | (apply P_move; (focus constructor)) | (apply P_assign; (focus constructor)) | (apply P_ar; (focus rfl); (focus rfl); (focus rfl); (focus (first | assumption | exact wi64 (by omega) (by omega) | exact wu64 (by omega) (by omega) | exact wi32 (by omega) (by omega) | exact wu8 (by omega) (by omega) | rfl))) | (apply P_ct; (focus rfl); (focus rfl); (focus rfl); (focus (dsimp only [cmpP]; first | done | omega))) | (apply P_cf; (focus rfl); (focus rfl); (focus rfl); (focus (dsimp only [cmpP]; first | done | omega))) | (apply P_pick_t; (focus rfl); (focus constructor)) | (apply P_pick_f; (focus rfl); (focus constructor)) | (apply P_extract; (focus rfl); (focus rfl)) | (apply P_not; (focus rfl); (focus rfl)) | (apply P_slen; (focus rfl); (focus rfl)) | (apply P_llen; (focus rfl); (focus rfl)) | (apply P_beq; (focus rfl); (focus rfl); (focus rfl); (focus (first | exact beq_self_eq_true _ | rfl))) | (apply P_bne; (focus rfl); (focus rfl); (focus rfl); (focus (first | exact bne_self_eq_false _ | rfl))) | (apply P_sadd; (focus rfl); (focus rfl); (focus omega)) | (apply P_max; (focus rfl); (focus rfl)) | (apply P_min; (focus rfl); (focus rfl)) | (apply P_idx1; (focus rfl); (focus rfl); (focus rfl); (focus rfl); (focus rfl); (focus omega)) | (apply P_nilCheck; (focus rfl)) | (apply P_conv; (focus rfl); (focus rfl); (focus rfl); (focus (first | assumption | exact wi64 (by omega) (by omega) | exact wu64 (by omega) (by omega) | exact wi32 (by omega) (by omega) | exact wu8 (by omega) (by omega) | rfl))) | (apply P_sindex0; (focus rfl); (focus rfl); (focus rfl); (focus omega)) | (apply P_sindexN; (focus rfl); (focus rfl); (focus rfl); (focus omega)) | (apply P_sindex; (focus rfl); (focus rfl); (focus rfl); (focus omega); (focus omega)) | (apply P_makeFunc; (focus (repeat constructor)); (focus (repeat constructor))) | (apply P_seq_t; (focus rfl); (focus rfl); (focus (first | assumption | rfl))) | (apply P_seq_f; (focus rfl); (focus rfl); (focus assumption)) | (apply P_sne_t; (focus rfl); (focus rfl); (focus assumption)) | (apply P_sne_f; (focus rfl); (focus rfl); (focus (first | assumption | rfl))) | (apply P_lslice; (focus rfl); (focus rfl); (focus rfl); (focus rfl); (focus rfl); (focus rfl); (focus omega); (focus omega); (focus omega)) | (apply P_lslice_hi; (focus rfl); (focus rfl); (focus rfl); (focus rfl); (focus rfl); (focus omega); (focus omega)) | (apply P_lslice_lo; (focus rfl); (focus rfl); (focus rfl); (focus rfl); (focus rfl); (focus omega); (focus omega)) | (apply P_sslice_lo; (focus rfl); (focus rfl); (focus rfl); (focus omega); (focus omega)) | (apply P_sslice_hi; (focus rfl); (focus rfl); (focus rfl); (focus omega); (focus omega)) | (apply P_sslice; (focus rfl); (focus rfl); (focus rfl); (focus rfl); (focus omega); (focus omega); (focus omega)) | (apply P_quo; (focus rfl); (focus rfl); (focus omega); (focus rfl)) | (apply P_rem; (focus rfl); (focus rfl); (focus omega); (focus rfl)) | (apply P_and; (focus rfl); (focus rfl); (focus (first | assumption | exact u8_and63 _ (by omega) (by omega) | exact u8_and31 _ (by omega) (by omega) | exact u8_and15 _ (by omega) (by omega) | exact u8_and7 _ (by omega) (by omega) | exact and192 (by omega) (by omega) | rfl))) | (apply P_or; (focus rfl); (focus rfl); (focus (first | assumption | exact i32_or6 _ _ (by omega) (by omega) (by omega) (by omega) (by omega) | rfl))) | (apply P_xor; (focus rfl); (focus rfl); (focus rfl)) | (apply P_shl_1; (focus rfl); (focus rfl); (focus rfl); (focus (first | assumption | exact wi64 (by omega) (by omega) | exact wu64 (by omega) (by omega) | exact wi32 (by omega) (by omega) | exact wu8 (by omega) (by omega) | rfl))) | (apply P_shl_2; (focus rfl); (focus rfl); (focus rfl); (focus (first | assumption | exact wi64 (by omega) (by omega) | exact wu64 (by omega) (by omega) | exact wi32 (by omega) (by omega) | exact wu8 (by omega) (by omega) | rfl))) | (apply P_shl_3; (focus rfl); (focus rfl); (focus rfl); (focus (first | assumption | exact wi64 (by omega) (by omega) | exact wu64 (by omega) (by omega) | exact wi32 (by omega) (by omega) | exact wu8 (by omega) (by omega) | rfl))) | (apply P_shl_4; (focus rfl); (focus rfl); (focus rfl); (focus (first | assumption | exact wi64 (by omega) (by omega) | exact wu64 (by omega) (by omega) | exact wi32 (by omega) (by omega) | exact wu8 (by omega) (by omega) | rfl))) | (apply P_shl_5; (focus rfl); (focus rfl); (focus rfl); (focus (first | assumption | exact wi64 (by omega) (by omega) | exact wu64 (by omega) (by omega) | exact wi32 (by omega) (by omega) | exact wu8 (by omega) (by omega) | rfl))) | (apply P_shl_6; (focus rfl); (focus rfl); (focus rfl); (focus (first | assumption | exact wi64 (by omega) (by omega) | exact wu64 (by omega) (by omega) | exact wi32 (by omega) (by omega) | exact wu8 (by omega) (by omega) | rfl))) | (apply P_shl_7; (focus rfl); (focus rfl); (focus rfl); (focus (first | assumption | exact wi64 (by omega) (by omega) | exact wu64 (by omega) (by omega) | exact wi32 (by omega) (by omega) | exact wu8 (by omega) (by omega) | rfl))) | (apply P_shl_8; (focus rfl); (focus rfl); (focus rfl); (focus (first | assumption | exact wi64 (by omega) (by omega) | exact wu64 (by omega) (by omega) | exact wi32 (by omega) (by omega) | exact wu8 (by omega) (by omega) | rfl))) | (apply P_shl_16; (focus rfl); (focus rfl); (focus rfl); (focus (first | assumption | exact wi64 (by omega) (by omega) | exact wu64 (by omega) (by omega) | exact wi32 (by omega) (by omega) | exact wu8 (by omega) (by omega) | rfl))) | (apply P_shl_24; (focus rfl); (focus rfl); (focus rfl); (focus (first | assumption | exact wi64 (by omega) (by omega) | exact wu64 (by omega) (by omega) | exact wi32 (by omega) (by omega) | exact wu8 (by omega) (by omega) | rfl))) | (apply P_shl_32; (focus rfl); (focus rfl); (focus rfl); (focus (first | assumption | exact wi64 (by omega) (by omega) | exact wu64 (by omega) (by omega) | exact wi32 (by omega) (by omega) | exact wu8 (by omega) (by omega) | rfl))) | (apply P_shl_40; (focus rfl); (focus rfl); (focus rfl); (focus (first | assumption | exact wi64 (by omega) (by omega) | exact wu64 (by omega) (by omega) | exact wi32 (by omega) (by omega) | exact wu8 (by omega) (by omega) | rfl))) | (apply P_shl_48; (focus rfl); (focus rfl); (focus rfl); (focus (first | assumption | exact wi64 (by omega) (by omega) | exact wu64 (by omega) (by omega) | exact wi32 (by omega) (by omega) | exact wu8 (by omega) (by omega) | rfl))) | (apply P_shl_56; (focus rfl); (focus rfl); (focus rfl); (focus (first | assumption | exact wi64 (by omega) (by omega) | exact wu64 (by omega) (by omega) | exact wi32 (by omega) (by omega) | exact wu8 (by omega) (by omega) | rfl))) | (apply P_shr_1; (focus rfl); (focus rfl); (focus rfl)) | (apply P_shr_2; (focus rfl); (focus rfl); (focus rfl)) | (apply P_shr_3; (focus rfl); (focus rfl); (focus rfl)) | (apply P_shr_4; (focus rfl); (focus rfl); (focus rfl)) | (apply P_shr_5; (focus rfl); (focus rfl); (focus rfl)) | (apply P_shr_6; (focus rfl); (focus rfl); (focus rfl)) | (apply P_shr_7; (focus rfl); (focus rfl); (focus rfl)) | (apply P_shr_8; (focus rfl); (focus rfl); (focus rfl)) | (apply P_shr_16; (focus rfl); (focus rfl); (focus rfl)) | (apply P_shr_24; (focus rfl); (focus rfl); (focus rfl)) | (apply P_shr_32; (focus rfl); (focus rfl); (focus rfl)) | (apply P_shr_40; (focus rfl); (focus rfl); (focus rfl)) | (apply P_shr_48; (focus rfl); (focus rfl); (focus rfl)) | (apply P_shr_56; (focus rfl); (focus rfl); (focus rfl)))); (focus rfl)) | (apply Lst_cs; (focus rfl); (focus rfl); (focus rfl); (focus rfl); all_goals (intro hc; dsimp only [cmpP] at hc))))
      · exact retQ2 rfl rfl ⟨⟨_, _, next_no hk (j + 1) (by omega) (by omega) (.inr (by omega)), rfl⟩, rfl⟩
      · exact rndQ_n (j + 1) ⟨by omega, fun i h1 h2 => by
          by_cases e : i = j + 1
          · subst e; omega
          · exact hcs i h1 (by omega), rfl⟩ ⟨rfl, rfl, rfl, rfl, rfl, trivial⟩ (by omega)
      · exact retQ2 rfl rfl ⟨⟨_, _, (fin (by omega)).1 (by omega), rfl⟩, rfl⟩
      · exact retQ2 rfl rfl ⟨⟨_, _, (fin (by omega)).1 (by omega), rfl⟩, rfl⟩
      · exact retQ2 rfl rfl ⟨⟨_, _, (fin (by omega)).1 (by omega), rfl⟩, rfl⟩
      · obtain rfl : j = k := by omega
        exact retQ2 rfl rfl ⟨⟨_, _, (fin rfl).2 (by omega) (by omega) (by omega), rfl⟩, rfl⟩
      · obtain rfl : j = k := by omega
        exact retQ2 rfl rfl ⟨⟨_, _, (fin rfl).2 (by omega) (by omega) (by omega), rfl⟩, rfl⟩
end Utf
namespace Utf
open Go Go.RowKit Sx
attribute [local irreducible] W Lst Qst Pu seqQ blkQ rndQ cutQ retQ Does Enters IntKind.wrap bits sb World.alloc World.putObj Blk
def Tabs (w : World) : Prop := Lib.Utf8Tabs (Tryd.lays196_ren.g 3) (Tryd.lays196_ren.g 4) w
theorem Tabs.below {w w' : World} (h : Tabs w) (hb : Below w.heap.size w w') : Tabs w' := Utf8Tabs_below h hb
theorem Tabs.alloc {w : World} (h : Tabs w) (o : Obj) : Tabs (w.alloc o) := h.below ((Below.refl _ _).alloc (Nat.le_refl _) o)
abbrev tl (s : ByteArray) : List UInt8 := s.data.toList

theorem c_valid (s : ByteArray) (w : World) (hT : Tabs w) (hs : s.size ≤ 9223372036854775807) : Does Tryd.prog 81 #[.string s] w fun v w' => v = .bool (Lib.validD (tl s)) ∧ Below w.heap.size w w' := by
  unfold Does
  exact ⟨Sx.enters_of Tryd.func81 (by kernel_rfl) rfl, (Any.utf8_ValidString Tryd.lays196 s w hs hT).mono fun e w' h => ⟨_, h.1, rfl, h.2⟩⟩
theorem c_count (s : ByteArray) (w : World) (hs : s.size < 9223372036854775807) : Does Tryd.prog 67 #[.string s] w fun v w' => v = .int .i64 (Lib.runeCount s) ∧ Below w.heap.size w w' := by
  unfold Does
  refine ⟨Sx.enters_of Tryd.func67 (by kernel_rfl) rfl, (Any.utf8_RuneCountInString Tryd.lays195 s w hs).mono ?_⟩
  rintro e w' ⟨h, pos, rfl⟩
  exact ⟨_, h, rfl, (Below.refl _ _).alloc (Nat.le_refl _) _⟩
theorem c_Check (s : ByteArray) (w : World) (hT : Tabs w) (hs : s.size ≤ 9223372036854775807) : Does Tryd.prog 66 #[.string s] w fun v w' => v = .bool (Lib.validD (tl s)) ∧ Below w.heap.size w w' := by
  refine Does_of (args := [.string s]) Tryd.func66 (by kernel_rfl) rfl rfl rfl rfl rfl ?_
  (refine Ga ?_)
  refine Lst_call rfl rfl ((c_valid s w hT hs).mono ?_)
  rintro v w' ⟨rfl, hb⟩
  (refine Ga ?_)
  exact retQ1 rfl ⟨rfl, hb⟩
theorem c_Len (s : ByteArray) (w : World) (hT : Tabs w) (hs : s.size < 9223372036854775807) : Does Tryd.prog 57 #[.string s] w fun v w' => v = .int .i64 ((rs (tl s)).length : Int) ∧ Below w.heap.size w w' := by
  refine Does_of (args := [.string s]) Tryd.func57 (by kernel_rfl) rfl rfl rfl rfl rfl ?_
  (refine Ga ?_)
  refine Lst_call rfl rfl ((c_Check s w hT (by omega)).mono ?_)
  rintro v w' ⟨rfl, hb⟩
  cases hv : Lib.validD (tl s)
  · (refine Ga ?_)
    exact retQ1 rfl ⟨by rw [rs_none hv]; rfl, hb⟩
  · (refine Ga ?_)
    refine Lst_call rfl rfl ((c_count s w' hs).mono ?_)
    rintro v w2 ⟨hv2, hb2⟩
    rw [runeCount_eq s hv] at hv2
    subst hv2
    (refine Ga ?_)
    exact retQ1 rfl ⟨rfl, hb.trans (hb2.mono hb.size)⟩
theorem kw_put {w : World} (A : World) (l : Nat) (r r' : Loop) (_ : w.heap.size ≤ l) (h : A.heap[l]? = some (.loop r)) : KeepsWalks A (A.putObj l (.loop r')) := KeepsWalks.putObj _ h rfl

/-- The iterator. -/
def runeAt (s : ByteArray) (k : Nat) : List Value := [.int .i64 (k : Int), .int .i32 ((rs (tl s)).getD k 0)]
end Utf
namespace Utf
open Go Go.RowKit Sx
attribute [local irreducible] W Lst Qst Pu seqQ blkQ rndQ cutQ retQ Does Enters IntKind.wrap bits sb World.alloc World.putObj Blk
/-- The piece of a text. -/
def cutS (s : ByteArray) (f t : Int) : ByteArray := runesBytes (cutL (rs (tl s)) f t)
theorem tl_cut (s : ByteArray) (f t : Int) : tl (cutS s f t) = enc (cutL (rs (tl s)) f t) := runesBytes_eq _ (cutL_good (rs_good _) f t)
theorem rs_cut (s : ByteArray) (f t : Int) : Lib.validD (tl (cutS s f t)) = true ∧ rs (tl (cutS s f t)) = cutL (rs (tl s)) f t := by
  rw [tl_cut]
  exact valid_of_some (rs_enc _ (cutL_good (rs_good _) f t))
theorem enc_cut_le (l : List Int) (a b : Int) : (enc (cutL l a b)).length ≤ (enc l).length := by
  have e1 : enc l = enc (l.take b.toNat) ++ enc (l.drop b.toNat) := by rw [← enc_append, List.take_append_drop]
  have e2 : enc (l.take b.toNat) = enc ((l.take b.toNat).take a.toNat) ++ enc (cutL l a b) := by unfold cutL; rw [← enc_append, List.take_append_drop]
  rw [e1, e2]
  simp only [List.length_append]
  omega
theorem cut_size (s : ByteArray) (f t : Int) : (cutS s f t).size ≤ s.size := by
  show (tl (cutS s f t)).length ≤ (tl s).length
  rw [tl_cut]
  cases hv : Lib.validD (tl s)
  · rw [rs_none hv]; simp [cutL, enc]
  · have := enc_cut_le (rs (tl s)) f t
    rwa [enc_rs hv] at this
end Utf
namespace Utf
open Go Go.RowKit Sx
attribute [local irreducible] W Lst Qst Pu seqQ blkQ rndQ cutQ retQ Does Enters IntKind.wrap bits sb World.alloc World.putObj Blk
theorem tl_from (t : ByteArray) (k : Nat) : tl (t.extract k t.size) = (tl t).drop k := by
  show (t.extract k t.size).data.toList = _
  rw [ByteArray.data_extract, Array.toList_extract]
  show ((tl t).drop k).take (t.size - k) = (tl t).drop k
  exact List.take_of_length_le (by rw [List.length_drop]; exact Nat.le_refl _)
theorem size_from (t : ByteArray) (k : Nat) : (t.extract k t.size).size = t.size - k := by
  show (tl (t.extract k t.size)).length = _
  rw [tl_from, List.length_drop]
  rfl
theorem u16_take_getD (l : List Int) (k : Nat) (hk : k < l.length) : u16 (l.take (k + 1)) = u16 (l.take k) + wd (l.getD k 0) := by
  rw [u16_take_succ _ k hk]
  simp [List.getD, hk]
theorem cutL_empty (l : List Int) (a b : Int) (h : min b (l.length : Int) ≤ max a 0) : cutL l a b = [] := by
  unfold cutL
  exact List.drop_eq_nil_of_le (by rw [List.length_take]; omega)
theorem cutL_clip (l : List Int) (a b : Int) : (l.take (min b (l.length : Int)).toNat).drop (max a 0).toNat = cutL l a b := by
  unfold cutL
  have e1 : (max a 0).toNat = a.toNat := by omega
  have e2 : l.take (min b (l.length : Int)).toNat = l.take b.toNat := by
    by_cases h : b ≤ l.length
    · rw [show min b (l.length : Int) = b by omega]
    · rw [List.take_of_length_le (by omega), List.take_of_length_le (by omega)]
  rw [e1, e2]
theorem r_Runes (s : ByteArray) (w : World) (hs : s.size ≤ 2000000) : Does Tryd.prog 28 #[.string s] w fun v w' => ∃ u, v = .tuple #[u, .bool (Lib.validD (tl s))] ∧ w'.ownsRow w.heap.size 21 1 u (rs (tl s)).length ((rs (tl s)).map (.int .i32)) ∧ Below w.heap.size w w' := by
  refine Does_of (args := [.string s]) Tryd.func28 (by kernel_rfl) rfl rfl rfl rfl rfl ?_
  (refine Ga ?_)
  refine W_loop (α := ByteArray × List Int × Value) (fun x => [(0, .string x.1), (4, x.2.2)])
    (fun x A => x.1.size + x.2.1.length ≤ s.size ∧ runesL (tl s) = (runesL (tl x.1)).map (fun l => x.2.1 ++ l) ∧ A.ownsRow w.heap.size 21 1 x.2.2 x.2.1.length (x.2.1.map (.int .i32)) ∧ Below w.heap.size w A ∧ ∃ a m c, x.2.2 = .slice a m c)
    (fun x _ => x.1.size) (s, [], .slice none 0 0) ⟨by simp, by simp, World.ownsRow_nil _ _ _ _, Below.refl _ _, _, _, _, rfl⟩ ⟨rfl, rfl, trivial⟩ ?_
  rintro K ⟨t, zs, u⟩ A ⟨hsz, hr, ho, hb, a, m, c, rfl⟩
  dsimp only at hsz hr ho hb ⊢
  (repeat' (first | (apply W_seq) | (apply W_region) | (apply W_block) | (apply W_skip) | (apply W_ret) | (apply W_exit) | (apply W_cond_t; (focus rfl)) | (apply W_cond_f; (focus rfl)) | (apply Lst_nil) | (apply seqQ_n) | (apply seqQ_r) | (apply seqQ_e) | (apply blkQ_n) | (apply blkQ_r) | (apply blkQ_e) | (apply blkQ_o; (focus rfl)) | (apply rndQ_r) | (apply rndQ_e) | (apply cutQ_r) | (apply cutQ_e) | (apply Lst_guard_t; (focus rfl); (focus rfl)) | (apply Lst_guard_f; (focus rfl); (focus rfl); (focus rfl); (focus rfl)) | (apply Lst_guard_u; (focus rfl); (focus rfl); (focus rfl)) | (apply Lst_rangeS; (focus rfl); (focus rfl); (focus ((try simp only [Sx.sizes]); first | done | rfl)); (focus rfl)) | (apply Lst_alloc; (focus rfl); (focus rfl); (focus rfl); (focus ((try simp only [Sx.sizes]); first | done | rfl)); (focus rfl)) | (apply Lst_box; (focus constructor); (focus rfl); (focus ((try simp only [Sx.sizes]); first | done | rfl)); (focus rfl)) | (apply Lst_load; (focus rfl); (focus rfl); (focus rfl); (focus ((repeat (first | assumption | (apply Blk.below (hb := hb1); rotate_left; (focus ((try simp only [Sx.sizes]); omega)); rotate_right) | (apply Blk.below (hb := hb2); rotate_left; (focus ((try simp only [Sx.sizes]); omega)); rotate_right) | (apply Blk.below (hb := hb3); rotate_left; (focus ((try simp only [Sx.sizes]); omega)); rotate_right) | (apply Blk.below (hb := hb4); rotate_left; (focus ((try simp only [Sx.sizes]); omega)); rotate_right) | (apply Blk.below (hb := hb5); rotate_left; (focus ((try simp only [Sx.sizes]); omega)); rotate_right) | (apply Blk.below (hb := hb6); rotate_left; (focus ((try simp only [Sx.sizes]); omega)); rotate_right) | (apply Blk.below (hb := hb7); rotate_left; (focus ((try simp only [Sx.sizes]); omega)); rotate_right) | (apply Blk.below (hb := hb8); rotate_left; (focus ((try simp only [Sx.sizes]); omega)); rotate_right) | (apply Blk.below (hb := hb9); rotate_left; (focus ((try simp only [Sx.sizes]); omega)); rotate_right) | exact Blk.newE (by first | rfl | ((try simp only [Sx.sizes]); first | done | omega)) _ _ | exact Blk.put_same (by (try simp only [Sx.sizes]); first | done | omega) _ _ | (apply Blk.put_ne; (focus omega)) | apply Blk.alloc | apply Blk.drew)); done)); (focus rfl); (focus rfl)) | (apply Lst_loadc; (focus rfl); (focus rfl); (focus rfl); (focus assumption); (focus rfl)) | (apply Lst_store; (focus rfl); (focus constructor); (focus rfl); (focus rfl); (focus rfl); (focus rfl); (focus ((repeat (first | assumption | (apply Blk.below (hb := hb1); rotate_left; (focus ((try simp only [Sx.sizes]); omega)); rotate_right) | (apply Blk.below (hb := hb2); rotate_left; (focus ((try simp only [Sx.sizes]); omega)); rotate_right) | (apply Blk.below (hb := hb3); rotate_left; (focus ((try simp only [Sx.sizes]); omega)); rotate_right) | (apply Blk.below (hb := hb4); rotate_left; (focus ((try simp only [Sx.sizes]); omega)); rotate_right) | (apply Blk.below (hb := hb5); rotate_left; (focus ((try simp only [Sx.sizes]); omega)); rotate_right) | (apply Blk.below (hb := hb6); rotate_left; (focus ((try simp only [Sx.sizes]); omega)); rotate_right) | (apply Blk.below (hb := hb7); rotate_left; (focus ((try simp only [Sx.sizes]); omega)); rotate_right) | (apply Blk.below (hb := hb8); rotate_left; (focus ((try simp only [Sx.sizes]); omega)); rotate_right) | (apply Blk.below (hb := hb9); rotate_left; (focus ((try simp only [Sx.sizes]); omega)); rotate_right) | exact Blk.newE (by first | rfl | ((try simp only [Sx.sizes]); first | done | omega)) _ _ | exact Blk.put_same (by (try simp only [Sx.sizes]); first | done | omega) _ _ | (apply Blk.put_ne; (focus omega)) | apply Blk.alloc | apply Blk.drew)); done)); (focus ((repeat constructor); done))) | (apply Lst_pu; (focus (first | (apply P_neg; (focus rfl); (focus (first | assumption | exact wi64 (by omega) (by omega) | exact wu64 (by omega) (by omega) | exact wi32 (by omega) (by omega) | exact wu8 (by omega) (by omega) | rfl))) | (apply P_move; (focus constructor)) | (apply P_assign; (focus constructor)) | (apply P_ar; (focus rfl); (focus rfl); (focus rfl); (focus (first | assumption | exact wi64 (by omega) (by omega) | exact wu64 (by omega) (by omega) | exact wi32 (by omega) (by omega) | exact wu8 (by omega) (by omega) | rfl))) | (apply P_ct; (focus rfl); (focus rfl); (focus rfl); (focus (dsimp only [cmpP]; first | done | omega))) | (apply P_cf; (focus rfl); (focus rfl); (focus rfl); (focus (dsimp only [cmpP]; first | done | omega))) | (apply P_pick_t; (focus rfl); (focus constructor)) | (apply P_pick_f; (focus rfl); (focus constructor)) | (apply P_extract; (focus rfl); (focus rfl)) | (apply P_not; (focus rfl); (focus rfl)) | (apply P_slen; (focus rfl); (focus rfl)) | (apply P_llen; (focus rfl); (focus rfl)) | (apply P_beq; (focus rfl); (focus rfl); (focus rfl); (focus (first | exact beq_self_eq_true _ | rfl))) | (apply P_bne; (focus rfl); (focus rfl); (focus rfl); (focus (first | exact bne_self_eq_false _ | rfl))) | (apply P_sadd; (focus rfl); (focus rfl); (focus omega)) | (apply P_max; (focus rfl); (focus rfl)) | (apply P_min; (focus rfl); (focus rfl)) | (apply P_idx1; (focus rfl); (focus rfl); (focus rfl); (focus rfl); (focus rfl); (focus omega)) | (apply P_nilCheck; (focus rfl)) | (apply P_conv; (focus rfl); (focus rfl); (focus rfl); (focus (first | assumption | exact wi64 (by omega) (by omega) | exact wu64 (by omega) (by omega) | exact wi32 (by omega) (by omega) | exact wu8 (by omega) (by omega) | rfl))) | (apply P_sindex0; (focus rfl); (focus rfl); (focus rfl); (focus omega)) | (apply P_sindexN; (focus rfl); (focus rfl); (focus rfl); (focus omega)) | (apply P_sindex; (focus rfl); (focus rfl); (focus rfl); (focus omega); (focus omega)) | (apply P_makeFunc; (focus (repeat constructor)); (focus (repeat constructor))) | (apply P_seq_t; (focus rfl); (focus rfl); (focus (first | assumption | rfl))) | (apply P_seq_f; (focus rfl); (focus rfl); (focus assumption)) | (apply P_sne_t; (focus rfl); (focus rfl); (focus assumption)) | (apply P_sne_f; (focus rfl); (focus rfl); (focus (first | assumption | rfl))))); (focus rfl)) | (apply Lst_cs; (focus rfl); (focus rfl); (focus rfl); (focus rfl); all_goals (intro hc; dsimp only [cmpP] at hc))))
  · (apply Lst_call; (focus rfl); (focus rfl))
    refine (c_next t _ (by omega)).mono ?_
    rintro v W' ⟨⟨r, k, hn, rfl⟩, rfl⟩
    have hne : tl t ≠ [] := by
      intro e
      exact absurd (congrArg List.length e) (show t.size ≠ 0 by omega)
    have hst := runesL_step _ hne
    rcases hn with ⟨hbad, rfl, rfl⟩ | ⟨hbad, rfl, rfl⟩
    · rw [if_pos hbad] at hst
      rw [hst] at hr
      have hv : Lib.validD (tl s) = false := by
        rw [← isSome_eq, hr]; rfl
      (refine Ga ?_)
      (apply retQ2; (focus rfl); (focus rfl))
      refine ⟨_, congrArg (fun b => Value.tuple #[_, .bool b]) hv.symm, ?_, hb⟩
      rw [rs_none hv]
      exact World.ownsRow_nil _ _ _ _
    · rw [if_neg (by rw [hbad]; exact Bool.false_ne_true)] at hst
      have hp : 1 ≤ (Lib.decodeL t.data.toList).2 := Lib.decodeL_width (tl t)
      have hle : (Lib.decodeL t.data.toList).2 ≤ (tl t).length := Lib.decodeL_le (tl t) hne
      have hle2 : (tl t).length = t.size := rfl
      have hbs := hb.size
      (refine Ga ?_)
      apply Lst_push (hown := ho) (bytes := 4)
      ((focus constructor); (focus rfl); (focus rfl); (focus rfl); (focus rfl); (focus rfl); (focus rfl); (focus rfl); (focus rfl); (focus rfl); (focus rfl); (focus simp [Value.oneCell']); (focus rfl); (focus rfl); (focus rfl); (focus rfl); (focus omega); (focus omega); (focus omega))
      intro v' w' ho' hg _
      obtain ⟨v1, v2, v3, rfl⟩ := own_slice ho'
      (refine Ga ?_)
      refine rndQ_n (t.extract (Lib.decodeL t.data.toList).2 t.size, zs ++ [((Lib.decodeL t.data.toList).1 : Int)], .slice v1 v2 v3) ⟨?_, ?_, ?_, Sx.Below.own hb ho hg (Nat.le_refl _) hbs, _, _, _, rfl⟩ ⟨rfl, rfl, trivial⟩ ?_
      · dsimp only
        rw [size_from, List.length_append, List.length_singleton]
        omega
      · dsimp only
        rw [hr, hst, tl_from]
        cases runesL ((tl t).drop (Lib.decodeL (tl t)).2) with
        | none => rfl
        | some l => simp
      · dsimp only
        rw [List.length_append, List.map_append]
        exact ho'
      · dsimp only
        rw [size_from]
        omega
  · have h0 : tl t = [] := List.eq_nil_of_length_eq_zero (show t.size = 0 by omega)
    rw [h0, runesL_nil] at hr
    obtain ⟨hv, hrs⟩ := valid_of_some hr
    (apply retQ2; (focus rfl); (focus rfl))
    refine ⟨_, congrArg (fun b => Value.tuple #[_, .bool b]) hv.symm, ?_, hb⟩
    rw [hrs, show (fun l => zs ++ l) [] = zs from List.append_nil _]
    exact ho
theorem r_Check (s : ByteArray) (w : World) (hs : s.size ≤ 2000000) : Does Tryd.prog 16 #[.string s] w fun v w' => v = .bool (Lib.validD (tl s)) ∧ Below w.heap.size w w' := by
  refine Does_of (args := [.string s]) Tryd.func16 (by kernel_rfl) rfl rfl rfl rfl rfl ?_
  (refine Ga ?_)
  (apply Lst_call; (focus rfl); (focus rfl))
  refine (r_Runes s w (by omega)).mono ?_
  rintro v w' ⟨u, rfl, -, hb⟩
  (refine Ga ?_)
  (apply retQ1; (focus rfl))
  exact ⟨rfl, hb⟩
end Utf
namespace Val
open Go Go.RowKit Sx Fl
attribute [local irreducible] W Lst Qst Pu seqQ blkQ rndQ cutQ retQ Does Enters IntKind.wrap bits sb World.alloc World.putObj Blk
/-- A value as the program has it. -/
def valv (k n : Int) (f : Nat) (s : ByteArray) : Value := .agg #[.int .i64 k, .int .i64 n, .float .f64 f, .string s]
theorem ord_self_nan {f : Nat} (h : isNaN f = true) : Ieee.double.order f f = none := order_nan f f (.inl h)
theorem ord_self {f : Nat} (h : isNaN f = false) : Ieee.double.order f f = some .eq := by rw [order_eq f f h h, cmp_eq rfl]
theorem c_isNaN (f : Nat) (w : World) : Does Tryd.prog 59 #[.float .f64 f] w fun v w' => v = .bool (isNaN f) ∧ w = w' := by
  refine Does_of (args := [.float .f64 f]) Tryd.func59 (by kernel_rfl) rfl rfl rfl rfl rfl ?_
  cases h : isNaN f
  · have ho := ord_self h
    (refine Gf ?_)
    (apply retQ1; (focus rfl))
    exact ⟨rfl, rfl⟩
  · have ho := ord_self_nan h
    (refine Gf ?_)
    (apply retQ1; (focus rfl))
    exact ⟨rfl, rfl⟩
/-- A float's bits, all NaNs one. -/
def nbits (f : Nat) : Nat := if isNaN f then 9221120237041090560 else f
theorem c_bitsOf (f : Nat) (w : World) : Does Tryd.prog 54 #[.float .f64 f] w fun v w' => v = .int .u64 (nbits f) ∧ w = w' := by
  refine Does_of (args := [.float .f64 f]) Tryd.func54 (by kernel_rfl) rfl rfl rfl rfl rfl ?_
  (refine Ga ?_)
  (apply Lst_call; (focus rfl); (focus rfl))
  refine (c_isNaN f w).mono ?_
  rintro v w' ⟨rfl, rfl⟩
  unfold nbits
  cases h : isNaN f
  · (refine Gf ?_)
    (apply retQ1; (focus rfl))
    exact ⟨rfl, rfl⟩
  · (refine Gf ?_)
    (apply retQ1; (focus rfl))
    exact ⟨rfl, rfl⟩
theorem wrap_big (f : Nat) (h1 : 9223372036854775808 ≤ f) (h2 : f < 18446744073709551616) : IntKind.i64.wrap (f : Int) = (f : Int) - 18446744073709551616 := by
  simp [IntKind.wrap, IntKind.signed, IntKind.bits]
  omega
theorem c_signbit (f : Nat) (hf : f < 18446744073709551616) (w : World) : Does Tryd.prog 86 #[.float .f64 f] w fun v w' => v = .bool (sgn f) ∧ w = w' := by
  refine Does_of (args := [.float .f64 f]) Tryd.func86 (by kernel_rfl) rfl rfl rfl rfl rfl ?_
  by_cases h : f < 9223372036854775808
  · have hs : sgn f = false := by unfold sgn; rw [show f / 9223372036854775808 = 0 by omega]; rfl
    rw [hs]
    have hw : IntKind.i64.wrap (f : Int) = (f : Int) := wi64 (by omega) (by omega)
    (refine Gf ?_)
    (apply retQ1; (focus rfl))
    exact ⟨rfl, rfl⟩
  · have hs : sgn f = true := by unfold sgn; rw [show f / 9223372036854775808 = 1 by omega]; rfl
    rw [hs]
    have hw := wrap_big f (by omega) hf
    (refine Gf ?_)
    (apply retQ1; (focus rfl))
    exact ⟨rfl, rfl⟩
theorem c_nanint (a : Int) (w : World) : Does Tryd.prog 82 #[.int .i64 a] w fun v w' => v = .bool false ∧ w = w' := by
  refine Does_of (args := [.int .i64 a]) Tryd.func82 (by kernel_rfl) rfl rfl rfl rfl rfl ?_
  (refine Gf ?_)
  (apply retQ1; (focus rfl))
  exact ⟨rfl, rfl⟩
theorem c_ints (a b : Int) (w : World) : Does Tryd.prog 69 #[.int .i64 a, .int .i64 b] w fun v w' => v = .int .i64 (if a < b then -1 else if b < a then 1 else 0) ∧ w = w' := by
  refine Does_of (args := [.int .i64 a, .int .i64 b]) Tryd.func69 (by kernel_rfl) rfl rfl rfl rfl rfl ?_
  (refine Gf ?_)
  (apply Lst_call; (focus rfl); (focus rfl))
  refine (c_nanint a w).mono ?_
  rintro v w' ⟨rfl, rfl⟩
  (refine Gf ?_)
  (apply Lst_call; (focus rfl); (focus rfl))
  refine (c_nanint b w).mono ?_
  rintro v w' ⟨rfl, rfl⟩
  by_cases h1 : a < b
  · rw [if_pos h1]
    (refine Gf ?_)
    (apply retQ1; (focus rfl))
    exact ⟨rfl, rfl⟩
  · rw [if_neg h1]
    by_cases h2 : b < a
    · rw [if_pos h2]
      (refine Gf ?_)
      (apply retQ1; (focus rfl))
      exact ⟨rfl, rfl⟩
    · rw [if_neg h2]
      (refine Gf ?_)
      (apply retQ1; (focus rfl))
      exact ⟨rfl, rfl⟩
theorem c_nanint64 (a : Int) (w : World) : Does Tryd.prog 83 #[.int .i64 a] w fun v w' => v = .bool false ∧ w = w' := by
  refine Does_of (args := [.int .i64 a]) Tryd.func83 (by kernel_rfl) rfl rfl rfl rfl rfl ?_
  (refine Gf ?_)
  (apply retQ1; (focus rfl))
  exact ⟨rfl, rfl⟩
theorem c_int64s (a b : Int) (w : World) : Does Tryd.prog 70 #[.int .i64 a, .int .i64 b] w fun v w' => v = .int .i64 (if a < b then -1 else if b < a then 1 else 0) ∧ w = w' := by
  refine Does_of (args := [.int .i64 a, .int .i64 b]) Tryd.func70 (by kernel_rfl) rfl rfl rfl rfl rfl ?_
  (refine Gf ?_)
  (apply Lst_call; (focus rfl); (focus rfl))
  refine (c_nanint64 a w).mono ?_
  rintro v w' ⟨rfl, rfl⟩
  (refine Gf ?_)
  (apply Lst_call; (focus rfl); (focus rfl))
  refine (c_nanint64 b w).mono ?_
  rintro v w' ⟨rfl, rfl⟩
  by_cases h1 : a < b
  · rw [if_pos h1]
    (refine Gf ?_)
    (apply retQ1; (focus rfl))
    exact ⟨rfl, rfl⟩
  · rw [if_neg h1]
    by_cases h2 : b < a
    · rw [if_pos h2]
      (refine Gf ?_)
      (apply retQ1; (focus rfl))
      exact ⟨rfl, rfl⟩
    · rw [if_neg h2]
      (refine Gf ?_)
      (apply retQ1; (focus rfl))
      exact ⟨rfl, rfl⟩
theorem c_nanflt (f : Nat) (w : World) : Does Tryd.prog 97 #[.float .f64 f] w fun v w' => v = .bool (isNaN f) ∧ w = w' := by
  refine Does_of (args := [.float .f64 f]) Tryd.func97 (by kernel_rfl) rfl rfl rfl rfl rfl ?_
  cases h : isNaN f
  · have ho := ord_self h
    (refine Gf ?_)
    (apply retQ1; (focus rfl))
    exact ⟨rfl, rfl⟩
  · have ho := ord_self_nan h
    (refine Gf ?_)
    (apply retQ1; (focus rfl))
    exact ⟨rfl, rfl⟩
/-- What value.rank makes of a float: the two noughts one, a NaN nought. -/
def rankf (f : Nat) : Nat := if isNaN f then 0 else if rung f = 0 then 0 else f
theorem ord_zero_eq {f : Nat} (h : isNaN f = false) (h0 : rung f = 0) : Ieee.double.order f 0 = some .eq := by
  rw [order_eq f 0 h (by rfl), cmp_eq]
  unfold sk
  rw [h0]
  cases sgn f <;> rfl
theorem ord_zero_ne {f : Nat} (h : isNaN f = false) (h0 : rung f ≠ 0) : ∃ c, Ieee.double.order f 0 = some c ∧ c ≠ .eq := by
  rw [order_eq f 0 h (by rfl)]
  have e0 : sk 0 = 0 := rfl
  rw [e0]
  unfold sk
  cases sgn f
  · exact ⟨_, rfl, by rw [if_neg (by simp), cmp_gt (by omega)]; simp⟩
  · exact ⟨_, rfl, by rw [if_pos rfl, cmp_lt (by omega)]; simp⟩
theorem c_rank (f : Nat) (hf : f < 18446744073709551616) (w : World) : Does Tryd.prog 84 #[.float .f64 f] w fun v w' => v = .tuple #[.int .i64 (if isNaN f then 1 else 0), .float .f64 (rankf f)] ∧ w = w' := by
  refine Does_of (args := [.float .f64 f]) Tryd.func84 (by kernel_rfl) rfl rfl rfl rfl rfl ?_
  (refine Gf ?_)
  (apply Lst_call; (focus rfl); (focus rfl))
  refine (c_isNaN f w).mono ?_
  rintro v w' ⟨rfl, rfl⟩
  unfold rankf
  cases h : isNaN f
  · by_cases h0 : rung f = 0
    · have ho := ord_zero_eq h h0
      rw [if_neg (by simp), if_neg (by simp), if_pos h0]
      (refine Gf ?_)
      (apply Lst_call; (focus rfl); (focus rfl))
      refine (c_signbit f hf w).mono ?_
      rintro v w' ⟨rfl, rfl⟩
      cases hs : sgn f
      · have hz : f = 0 := by
          unfold sgn at hs
          unfold rung at h0
          have := beq_eq_false_iff_ne.1 hs
          omega
        subst hz
        (refine Gf ?_)
        (apply retQ2; (focus rfl); (focus rfl))
        exact ⟨rfl, rfl⟩
      · (refine Gf ?_)
        (apply retQ2; (focus rfl); (focus rfl))
        exact ⟨rfl, rfl⟩
    · rw [if_neg (by simp), if_neg (by simp), if_neg h0]
      obtain ⟨c, ho, hc⟩ := ord_zero_ne h h0
      rcases c with _ | _ | _
      · (refine Gf ?_)
        (apply retQ2; (focus rfl); (focus rfl))
        exact ⟨rfl, rfl⟩
      · exact absurd rfl hc
      · (refine Gf ?_)
        (apply retQ2; (focus rfl); (focus rfl))
        exact ⟨rfl, rfl⟩
  · (refine Gf ?_)
    (apply retQ2; (focus rfl); (focus rfl))
    exact ⟨rfl, rfl⟩
end Val
namespace Val
open Go Go.RowKit Sx Fl
attribute [local irreducible] W Lst Qst Pu seqQ blkQ rndQ cutQ retQ Does Enters IntKind.wrap bits sb World.alloc World.putObj Blk
def cmpI (a b : Int) : Int := if a < b then -1 else if b < a then 1 else 0
theorem c_flts (x y : Nat) (hx : isNaN x = false) (hy : isNaN y = false) (w : World) : Does Tryd.prog 85 #[.float .f64 x, .float .f64 y] w fun v w' => v = .int .i64 (cmpI (sk x) (sk y)) ∧ w = w' := by
  refine Does_of (args := [.float .f64 x, .float .f64 y]) Tryd.func85 (by kernel_rfl) rfl rfl rfl rfl rfl ?_
  (refine Gf ?_)
  (apply Lst_call; (focus rfl); (focus rfl))
  refine (c_nanflt x w).mono ?_
  rintro v w' ⟨hv, rfl⟩
  rw [hx] at hv; subst hv
  (refine Gf ?_)
  (apply Lst_call; (focus rfl); (focus rfl))
  refine (c_nanflt y w).mono ?_
  rintro v w' ⟨hv, rfl⟩
  rw [hy] at hv; subst hv
  have ho := order_eq x y hx hy
  unfold cmpI
  by_cases h1 : sk x < sk y
  · rw [if_pos h1]
    rw [cmp_lt h1] at ho
    (refine Gf ?_)
    (apply retQ1; (focus rfl))
    exact ⟨rfl, rfl⟩
  · rw [if_neg h1]
    by_cases h2 : sk y < sk x
    · rw [if_pos h2]
      rw [cmp_gt h2] at ho
      (refine Gf ?_)
      (apply retQ1; (focus rfl))
      exact ⟨rfl, rfl⟩
    · rw [if_neg h2]
      rw [cmp_eq (by omega)] at ho
      (refine Gf ?_)
      (apply retQ1; (focus rfl))
      exact ⟨rfl, rfl⟩
/-- Where a float stands. -/
def K (f : Nat) : Int := if isNaN f then 9223372036854775807 else if sgn f then -1 - (rung f : Int) else (rung f : Int)
theorem rankf_nan {f : Nat} (h : isNaN f = true) : rankf f = 0 := by unfold rankf; rw [if_pos h]
theorem nan_rankf (f : Nat) : isNaN (rankf f) = false := by
  unfold rankf
  cases h : isNaN f
  · by_cases h0 : rung f = 0
    · rw [if_neg (by simp), if_pos h0]; rfl
    · rw [if_neg (by simp), if_neg h0]; exact h
  · rfl
theorem sk_rankf {f : Nat} (h : isNaN f = false) : sk (rankf f) = sk f := by
  unfold rankf
  by_cases h0 : rung f = 0
  · rw [h, if_neg (by simp), if_pos h0]
    unfold sk
    rw [h0]
    cases sgn f <;> rfl
  · rw [h, if_neg (by simp), if_neg h0]
theorem rung_lt {f : Nat} (h : isNaN f = false) : rung f ≤ 9218868437227405312 := by
  unfold isNaN at h
  exact Nat.le_of_not_lt (of_decide_eq_false h)
theorem K_nan {f : Nat} (h : isNaN f = true) : K f = 9223372036854775807 := by unfold K; rw [if_pos h]
theorem K_num {f : Nat} (h : isNaN f = false) : K f = if sgn f then -1 - (rung f : Int) else (rung f : Int) := by unfold K; rw [if_neg (by simp [h])]
theorem K_lt_nan {f : Nat} (h : isNaN f = false) : K f < 9223372036854775807 := by
  have := rung_lt h
  rw [K_num h]
  cases sgn f
  · rw [if_neg (by simp)]; omega
  · rw [if_pos rfl]; omega
theorem K_lt {a b : Nat} (ha : isNaN a = false) (hb : isNaN b = false) (h : sk a < sk b) : K a < K b := by
  rw [K_num ha, K_num hb]
  unfold sk at h
  cases hs : sgn a <;> cases ht : sgn b <;> rw [hs, ht] at h <;> simp only [Bool.false_eq_true, if_false, if_true] at h ⊢ <;> omega
theorem c_floats (a b : Nat) (ha : a < 18446744073709551616) (hb : b < 18446744073709551616) (w : World) : Does Tryd.prog 71 #[.float .f64 a, .float .f64 b] w fun v w' => v = .int .i64 (cmpI (K a) (K b)) ∧ w = w' := by
  refine Does_of (args := [.float .f64 a, .float .f64 b]) Tryd.func71 (by kernel_rfl) rfl rfl rfl rfl rfl ?_
  (refine Gf ?_)
  (apply Lst_call; (focus rfl); (focus rfl))
  refine (c_rank a ha w).mono ?_
  rintro v w' ⟨hv1, rfl⟩
  cases na : isNaN a <;> (rw [na] at hv1; try simp only [if_true, if_false, Bool.false_eq_true] at hv1) <;> subst hv1
  · (refine Gf ?_)
    (apply Lst_call; (focus rfl); (focus rfl))
    refine (c_rank b hb w).mono ?_
    rintro v w' ⟨hv2, rfl⟩
    cases nb : isNaN b <;> (rw [nb] at hv2; try simp only [if_true, if_false, Bool.false_eq_true] at hv2) <;> subst hv2
    · have ho := order_eq _ _ (nan_rankf a) (nan_rankf b)
      have hc := c_flts (rankf a) (rankf b) (nan_rankf a) (nan_rankf b) w
      rw [sk_rankf na, sk_rankf nb] at ho hc
      by_cases h1 : sk a < sk b
      · have hk := K_lt na nb h1
        rw [cmp_lt h1] at ho
        (refine Gf ?_)
        (apply Lst_call; (focus rfl); (focus rfl))
        refine hc.mono ?_
        rintro v w' ⟨rfl, rfl⟩
        (refine Gf ?_)
        (apply retQ1; (focus rfl))
        refine ⟨?_, rfl⟩
        unfold cmpI; rw [if_pos h1, if_pos hk]; rfl
      · by_cases h2 : sk b < sk a
        · have hk := K_lt nb na h2
          rw [cmp_gt h2] at ho
          (refine Gf ?_)
          (apply Lst_call; (focus rfl); (focus rfl))
          refine hc.mono ?_
          rintro v w' ⟨rfl, rfl⟩
          (refine Gf ?_)
          (apply retQ1; (focus rfl))
          refine ⟨?_, rfl⟩
          unfold cmpI; rw [if_neg h1, if_pos h2, if_neg (by omega), if_pos hk]; rfl
        · have he : sk a = sk b := by omega
          rw [cmp_eq he] at ho
          by_cases h0 : rung a = 0
          · have h0' : rung b = 0 := by
              unfold sk at he
              rw [h0] at he
              cases hs : sgn a <;> cases ht : sgn b <;> rw [hs, ht] at he <;> simp only [Bool.false_eq_true, if_false, if_true] at he <;> omega
            have oa := ord_zero_eq na h0
            have ob := ord_zero_eq nb h0'
            (refine Gf ?_)
            (apply Lst_call; (focus rfl); (focus rfl))
            refine (c_signbit a ha w).mono ?_
            rintro v w' ⟨rfl, rfl⟩
            (refine Gf ?_)
            (apply Lst_call; (focus rfl); (focus rfl))
            refine (c_signbit b hb w).mono ?_
            rintro v w' ⟨rfl, rfl⟩
            rw [K_num na, K_num nb, h0, h0']
            cases hs : sgn a <;> cases ht : sgn b
            · (refine Gf ?_)
              (apply retQ1; (focus rfl))
              exact ⟨rfl, rfl⟩
            · (refine Gf ?_)
              (apply Lst_call; (focus rfl); (focus rfl))
              refine (c_signbit a ha w).mono ?_
              rintro v w' ⟨rfl, rfl⟩
              rw [hs]
              (refine Gf ?_)
              (apply retQ1; (focus rfl))
              exact ⟨rfl, rfl⟩
            · (refine Gf ?_)
              (apply Lst_call; (focus rfl); (focus rfl))
              refine (c_signbit a ha w).mono ?_
              rintro v w' ⟨rfl, rfl⟩
              rw [hs]
              (refine Gf ?_)
              (apply retQ1; (focus rfl))
              exact ⟨rfl, rfl⟩
            · (refine Gf ?_)
              (apply retQ1; (focus rfl))
              exact ⟨rfl, rfl⟩
          · obtain ⟨c, oa, hne⟩ := ord_zero_ne na h0
            have hk : K a = K b := by
              rw [K_num na, K_num nb]
              unfold sk at he
              cases hs : sgn a <;> cases ht : sgn b <;> rw [hs, ht] at he <;> simp only [Bool.false_eq_true, if_false, if_true] at he ⊢ <;> omega
            rw [hk]
            have hz : cmpI (K b) (K b) = 0 := by unfold cmpI; rw [if_neg (by omega), if_neg (by omega)]
            rw [hz]
            rcases c with _ | _ | _
            · (refine Gf ?_)
              (apply retQ1; (focus rfl))
              exact ⟨rfl, rfl⟩
            · exact absurd rfl hne
            · (refine Gf ?_)
              (apply retQ1; (focus rfl))
              exact ⟨rfl, rfl⟩
    · have hk := K_lt_nan na
      (refine Gf ?_)
      (apply Lst_call; (focus rfl); (focus rfl))
      refine (c_ints _ _ w).mono ?_
      rintro v w' ⟨hv, rfl⟩
      rw [if_pos (by omega)] at hv; subst hv
      (refine Gf ?_)
      (apply retQ1; (focus rfl))
      refine ⟨?_, rfl⟩
      rw [K_nan nb]
      unfold cmpI; rw [if_pos hk]; rfl
  · (refine Gf ?_)
    (apply Lst_call; (focus rfl); (focus rfl))
    refine (c_rank b hb w).mono ?_
    rintro v w' ⟨hv2, rfl⟩
    cases nb : isNaN b <;> (rw [nb] at hv2; try simp only [if_true, if_false, Bool.false_eq_true] at hv2) <;> subst hv2
    · have hk := K_lt_nan nb
      (refine Gf ?_)
      (apply Lst_call; (focus rfl); (focus rfl))
      refine (c_ints _ _ w).mono ?_
      rintro v w' ⟨hv, rfl⟩
      rw [if_neg (by omega), if_pos (by omega)] at hv; subst hv
      (refine Gf ?_)
      (apply retQ1; (focus rfl))
      refine ⟨?_, rfl⟩
      rw [K_nan na]
      unfold cmpI; rw [if_neg (by omega), if_pos hk]; rfl
    · rw [rankf_nan na, rankf_nan nb, K_nan na, K_nan nb]
      (refine Gf ?_)
      (apply Lst_call; (focus rfl); (focus rfl))
      refine (c_flts 0 0 rfl rfl w).mono ?_
      rintro v w' ⟨rfl, rfl⟩
      (refine Gf ?_)
      (apply retQ1; (focus rfl))
      exact ⟨rfl, rfl⟩
end Val
namespace Val
open Go Go.RowKit Sx Fl
theorem c_strings (a b : ByteArray) (w : World) : Does Tryd.prog 72 #[.string a, .string b] w fun v w' => v = .int .i64 (cmpS a b) ∧ w = w' := by
  refine ⟨Sx.enters_of Tryd.func72 (by kernel_rfl) rfl, (Tryd.strings_Compare a b w).mono fun e w' h => ⟨_, h.1, rfl, h.2.symm⟩⟩
attribute [local irreducible] W Lst Qst Pu seqQ blkQ rndQ cutQ retQ Does Enters IntKind.wrap bits sb World.alloc World.putObj Blk
theorem Ints.of_blk {w : World} {b : Nat} {k : IntKind} {zs : List Int} {e : TypeId} (c : Nat) (h : Blk w b (zs.map (Value.int k)) e) : Ints w k (.slice (some ⟨b, 0, none⟩) zs.length c) zs :=
  ⟨b, 0, c, .inl rfl, fun _ => h.lt, fun j hj => by
    unfold Blk at h
    simp [World.cell?, h, hj]⟩
def orL : List Int → Int
  | [] => 0
  | a :: l => if a ≠ 0 then a else orL l
theorem orL_drop (zs : List Int) (k : Nat) (hk : k < zs.length) : orL (zs.drop k) = if zs.getD k 0 ≠ 0 then zs.getD k 0 else orL (zs.drop (k + 1)) := by
  rw [List.drop_eq_getElem_cons hk]
  simp [orL, List.getD, hk]
theorem c_or (b : Option Addr) (c : Nat) (zs : List Int) (w : World) (h : Ints w .i64 (.slice b zs.length c) zs) (hl : zs.length ≤ 1000) : Does Tryd.prog 68 #[.slice b zs.length c] w fun v w' => v = .int .i64 (orL zs) ∧ w = w' := by
  refine Does_of (args := [.slice b zs.length c]) Tryd.func68 (by kernel_rfl) rfl rfl rfl rfl rfl ?_
  (refine Ga ?_)
  refine W_loop (α := Nat) (fun k => [(3, .int .i64 0), (6, .slice b zs.length c), (7, .int .i64 zs.length), (8, .int .i64 (k : Int))])
    (fun k A => k ≤ zs.length ∧ orL (zs.drop k) = orL zs ∧ w = A) (fun k _ => zs.length - k) 0 ⟨Nat.zero_le _, rfl, rfl⟩ ⟨rfl, rfl, rfl, rfl, trivial⟩ ?_
  rintro K k A ⟨hk, ho, rfl⟩
  (repeat' (first | (apply W_seq) | (apply W_region) | (apply W_block) | (apply W_skip) | (apply W_ret) | (apply W_exit) | (apply W_cond_t; (focus rfl)) | (apply W_cond_f; (focus rfl)) | (apply Lst_nil) | (apply seqQ_n) | (apply seqQ_r) | (apply seqQ_e) | (apply blkQ_n) | (apply blkQ_r) | (apply blkQ_e) | (apply blkQ_o; (focus rfl)) | (apply rndQ_r) | (apply rndQ_e) | (apply cutQ_r) | (apply cutQ_e) | (apply Lst_guard_t; (focus rfl); (focus rfl)) | (apply Lst_guard_f; (focus rfl); (focus rfl); (focus rfl); (focus rfl)) | (apply Lst_guard_u; (focus rfl); (focus rfl); (focus rfl)) | (apply Lst_rangeS; (focus rfl); (focus rfl); (focus ((try simp only [Sx.sizes]); first | done | rfl)); (focus rfl)) | (apply Lst_alloc; (focus rfl); (focus rfl); (focus rfl); (focus ((try simp only [Sx.sizes]); first | done | rfl)); (focus rfl)) | (apply Lst_box; (focus constructor); (focus rfl); (focus ((try simp only [Sx.sizes]); first | done | rfl)); (focus rfl)) | (apply Lst_load; (focus rfl); (focus rfl); (focus rfl); (focus ((repeat (first | assumption | (apply Blk.below (hb := hb1); rotate_left; (focus ((try simp only [Sx.sizes]); omega)); rotate_right) | (apply Blk.below (hb := hb2); rotate_left; (focus ((try simp only [Sx.sizes]); omega)); rotate_right) | (apply Blk.below (hb := hb3); rotate_left; (focus ((try simp only [Sx.sizes]); omega)); rotate_right) | (apply Blk.below (hb := hb4); rotate_left; (focus ((try simp only [Sx.sizes]); omega)); rotate_right) | (apply Blk.below (hb := hb5); rotate_left; (focus ((try simp only [Sx.sizes]); omega)); rotate_right) | (apply Blk.below (hb := hb6); rotate_left; (focus ((try simp only [Sx.sizes]); omega)); rotate_right) | (apply Blk.below (hb := hb7); rotate_left; (focus ((try simp only [Sx.sizes]); omega)); rotate_right) | (apply Blk.below (hb := hb8); rotate_left; (focus ((try simp only [Sx.sizes]); omega)); rotate_right) | (apply Blk.below (hb := hb9); rotate_left; (focus ((try simp only [Sx.sizes]); omega)); rotate_right) | exact Blk.newE (by first | rfl | ((try simp only [Sx.sizes]); first | done | omega)) _ _ | exact Blk.put_same (by (try simp only [Sx.sizes]); first | done | omega) _ _ | (apply Blk.put_ne; (focus omega)) | apply Blk.alloc | apply Blk.drew)); done)); (focus rfl); (focus rfl)) | (apply Lst_loadc; (focus rfl); (focus rfl); (focus rfl); (focus assumption); (focus rfl)) | (apply Lst_store; (focus rfl); (focus constructor); (focus rfl); (focus rfl); (focus rfl); (focus rfl); (focus ((repeat (first | assumption | (apply Blk.below (hb := hb1); rotate_left; (focus ((try simp only [Sx.sizes]); omega)); rotate_right) | (apply Blk.below (hb := hb2); rotate_left; (focus ((try simp only [Sx.sizes]); omega)); rotate_right) | (apply Blk.below (hb := hb3); rotate_left; (focus ((try simp only [Sx.sizes]); omega)); rotate_right) | (apply Blk.below (hb := hb4); rotate_left; (focus ((try simp only [Sx.sizes]); omega)); rotate_right) | (apply Blk.below (hb := hb5); rotate_left; (focus ((try simp only [Sx.sizes]); omega)); rotate_right) | (apply Blk.below (hb := hb6); rotate_left; (focus ((try simp only [Sx.sizes]); omega)); rotate_right) | (apply Blk.below (hb := hb7); rotate_left; (focus ((try simp only [Sx.sizes]); omega)); rotate_right) | (apply Blk.below (hb := hb8); rotate_left; (focus ((try simp only [Sx.sizes]); omega)); rotate_right) | (apply Blk.below (hb := hb9); rotate_left; (focus ((try simp only [Sx.sizes]); omega)); rotate_right) | exact Blk.newE (by first | rfl | ((try simp only [Sx.sizes]); first | done | omega)) _ _ | exact Blk.put_same (by (try simp only [Sx.sizes]); first | done | omega) _ _ | (apply Blk.put_ne; (focus omega)) | apply Blk.alloc | apply Blk.drew)); done)); (focus ((repeat constructor); done))) | (apply Lst_pu; (focus (first | (apply P_neg; (focus rfl); (focus (first | assumption | exact wi64 (by omega) (by omega) | exact wu64 (by omega) (by omega) | exact wi32 (by omega) (by omega) | exact wu8 (by omega) (by omega) | rfl))) | (apply P_move; (focus constructor)) | (apply P_assign; (focus constructor)) | (apply P_ar; (focus rfl); (focus rfl); (focus rfl); (focus (first | assumption | exact wi64 (by omega) (by omega) | exact wu64 (by omega) (by omega) | exact wi32 (by omega) (by omega) | exact wu8 (by omega) (by omega) | rfl))) | (apply P_ct; (focus rfl); (focus rfl); (focus rfl); (focus (dsimp only [cmpP]; first | done | omega))) | (apply P_cf; (focus rfl); (focus rfl); (focus rfl); (focus (dsimp only [cmpP]; first | done | omega))) | (apply P_pick_t; (focus rfl); (focus constructor)) | (apply P_pick_f; (focus rfl); (focus constructor)) | (apply P_extract; (focus rfl); (focus rfl)) | (apply P_not; (focus rfl); (focus rfl)) | (apply P_slen; (focus rfl); (focus rfl)) | (apply P_llen; (focus rfl); (focus rfl)) | (apply P_beq; (focus rfl); (focus rfl); (focus rfl); (focus (first | exact beq_self_eq_true _ | rfl))) | (apply P_bne; (focus rfl); (focus rfl); (focus rfl); (focus (first | exact bne_self_eq_false _ | rfl))) | (apply P_sadd; (focus rfl); (focus rfl); (focus omega)) | (apply P_max; (focus rfl); (focus rfl)) | (apply P_min; (focus rfl); (focus rfl)) | (apply P_idx1; (focus rfl); (focus rfl); (focus rfl); (focus rfl); (focus rfl); (focus omega)) | (apply P_nilCheck; (focus rfl)) | (apply P_conv; (focus rfl); (focus rfl); (focus rfl); (focus (first | assumption | exact wi64 (by omega) (by omega) | exact wu64 (by omega) (by omega) | exact wi32 (by omega) (by omega) | exact wu8 (by omega) (by omega) | rfl))) | (apply P_sindex0; (focus rfl); (focus rfl); (focus rfl); (focus omega)) | (apply P_sindexN; (focus rfl); (focus rfl); (focus rfl); (focus omega)) | (apply P_sindex; (focus rfl); (focus rfl); (focus rfl); (focus omega); (focus omega)) | (apply P_makeFunc; (focus (repeat constructor)); (focus (repeat constructor))) | (apply P_seq_t; (focus rfl); (focus rfl); (focus (first | assumption | rfl))) | (apply P_seq_f; (focus rfl); (focus rfl); (focus assumption)) | (apply P_sne_t; (focus rfl); (focus rfl); (focus assumption)) | (apply P_sne_f; (focus rfl); (focus rfl); (focus (first | assumption | rfl))))); (focus rfl)) | (apply Lst_cs; (focus rfl); (focus rfl); (focus rfl); (focus rfl); all_goals (intro hc; dsimp only [cmpP] at hc))))
  · have hlt : k < zs.length := by omega
    obtain ⟨g, off, rfl, hcell⟩ := h.at hlt
    rw [orL_drop zs k hlt] at ho
    (repeat' (first | (apply W_seq) | (apply W_region) | (apply W_block) | (apply W_skip) | (apply W_ret) | (apply W_exit) | (apply W_cond_t; (focus rfl)) | (apply W_cond_f; (focus rfl)) | (apply Lst_nil) | (apply seqQ_n) | (apply seqQ_r) | (apply seqQ_e) | (apply blkQ_n) | (apply blkQ_r) | (apply blkQ_e) | (apply blkQ_o; (focus rfl)) | (apply rndQ_r) | (apply rndQ_e) | (apply cutQ_r) | (apply cutQ_e) | (apply Lst_guard_t; (focus rfl); (focus rfl)) | (apply Lst_guard_f; (focus rfl); (focus rfl); (focus rfl); (focus rfl)) | (apply Lst_guard_u; (focus rfl); (focus rfl); (focus rfl)) | (apply Lst_rangeS; (focus rfl); (focus rfl); (focus ((try simp only [Sx.sizes]); first | done | rfl)); (focus rfl)) | (apply Lst_alloc; (focus rfl); (focus rfl); (focus rfl); (focus ((try simp only [Sx.sizes]); first | done | rfl)); (focus rfl)) | (apply Lst_box; (focus constructor); (focus rfl); (focus ((try simp only [Sx.sizes]); first | done | rfl)); (focus rfl)) | (apply Lst_load; (focus rfl); (focus rfl); (focus rfl); (focus ((repeat (first | assumption | (apply Blk.below (hb := hb1); rotate_left; (focus ((try simp only [Sx.sizes]); omega)); rotate_right) | (apply Blk.below (hb := hb2); rotate_left; (focus ((try simp only [Sx.sizes]); omega)); rotate_right) | (apply Blk.below (hb := hb3); rotate_left; (focus ((try simp only [Sx.sizes]); omega)); rotate_right) | (apply Blk.below (hb := hb4); rotate_left; (focus ((try simp only [Sx.sizes]); omega)); rotate_right) | (apply Blk.below (hb := hb5); rotate_left; (focus ((try simp only [Sx.sizes]); omega)); rotate_right) | (apply Blk.below (hb := hb6); rotate_left; (focus ((try simp only [Sx.sizes]); omega)); rotate_right) | (apply Blk.below (hb := hb7); rotate_left; (focus ((try simp only [Sx.sizes]); omega)); rotate_right) | (apply Blk.below (hb := hb8); rotate_left; (focus ((try simp only [Sx.sizes]); omega)); rotate_right) | (apply Blk.below (hb := hb9); rotate_left; (focus ((try simp only [Sx.sizes]); omega)); rotate_right) | exact Blk.newE (by first | rfl | ((try simp only [Sx.sizes]); first | done | omega)) _ _ | exact Blk.put_same (by (try simp only [Sx.sizes]); first | done | omega) _ _ | (apply Blk.put_ne; (focus omega)) | apply Blk.alloc | apply Blk.drew)); done)); (focus rfl); (focus rfl)) | (apply Lst_loadc; (focus rfl); (focus rfl); (focus rfl); (focus assumption); (focus rfl)) | (apply Lst_store; (focus rfl); (focus constructor); (focus rfl); (focus rfl); (focus rfl); (focus rfl); (focus ((repeat (first | assumption | (apply Blk.below (hb := hb1); rotate_left; (focus ((try simp only [Sx.sizes]); omega)); rotate_right) | (apply Blk.below (hb := hb2); rotate_left; (focus ((try simp only [Sx.sizes]); omega)); rotate_right) | (apply Blk.below (hb := hb3); rotate_left; (focus ((try simp only [Sx.sizes]); omega)); rotate_right) | (apply Blk.below (hb := hb4); rotate_left; (focus ((try simp only [Sx.sizes]); omega)); rotate_right) | (apply Blk.below (hb := hb5); rotate_left; (focus ((try simp only [Sx.sizes]); omega)); rotate_right) | (apply Blk.below (hb := hb6); rotate_left; (focus ((try simp only [Sx.sizes]); omega)); rotate_right) | (apply Blk.below (hb := hb7); rotate_left; (focus ((try simp only [Sx.sizes]); omega)); rotate_right) | (apply Blk.below (hb := hb8); rotate_left; (focus ((try simp only [Sx.sizes]); omega)); rotate_right) | (apply Blk.below (hb := hb9); rotate_left; (focus ((try simp only [Sx.sizes]); omega)); rotate_right) | exact Blk.newE (by first | rfl | ((try simp only [Sx.sizes]); first | done | omega)) _ _ | exact Blk.put_same (by (try simp only [Sx.sizes]); first | done | omega) _ _ | (apply Blk.put_ne; (focus omega)) | apply Blk.alloc | apply Blk.drew)); done)); (focus ((repeat constructor); done))) | (apply Lst_pu; (focus (first | (apply P_neg; (focus rfl); (focus (first | assumption | exact wi64 (by omega) (by omega) | exact wu64 (by omega) (by omega) | exact wi32 (by omega) (by omega) | exact wu8 (by omega) (by omega) | rfl))) | (apply P_move; (focus constructor)) | (apply P_assign; (focus constructor)) | (apply P_ar; (focus rfl); (focus rfl); (focus rfl); (focus (first | assumption | exact wi64 (by omega) (by omega) | exact wu64 (by omega) (by omega) | exact wi32 (by omega) (by omega) | exact wu8 (by omega) (by omega) | rfl))) | (apply P_ct; (focus rfl); (focus rfl); (focus rfl); (focus (dsimp only [cmpP]; first | done | omega))) | (apply P_cf; (focus rfl); (focus rfl); (focus rfl); (focus (dsimp only [cmpP]; first | done | omega))) | (apply P_pick_t; (focus rfl); (focus constructor)) | (apply P_pick_f; (focus rfl); (focus constructor)) | (apply P_extract; (focus rfl); (focus rfl)) | (apply P_not; (focus rfl); (focus rfl)) | (apply P_slen; (focus rfl); (focus rfl)) | (apply P_llen; (focus rfl); (focus rfl)) | (apply P_beq; (focus rfl); (focus rfl); (focus rfl); (focus (first | exact beq_self_eq_true _ | rfl))) | (apply P_bne; (focus rfl); (focus rfl); (focus rfl); (focus (first | exact bne_self_eq_false _ | rfl))) | (apply P_sadd; (focus rfl); (focus rfl); (focus omega)) | (apply P_max; (focus rfl); (focus rfl)) | (apply P_min; (focus rfl); (focus rfl)) | (apply P_idx1; (focus rfl); (focus rfl); (focus rfl); (focus rfl); (focus rfl); (focus omega)) | (apply P_nilCheck; (focus rfl)) | (apply P_conv; (focus rfl); (focus rfl); (focus rfl); (focus (first | assumption | exact wi64 (by omega) (by omega) | exact wu64 (by omega) (by omega) | exact wi32 (by omega) (by omega) | exact wu8 (by omega) (by omega) | rfl))) | (apply P_sindex0; (focus rfl); (focus rfl); (focus rfl); (focus omega)) | (apply P_sindexN; (focus rfl); (focus rfl); (focus rfl); (focus omega)) | (apply P_sindex; (focus rfl); (focus rfl); (focus rfl); (focus omega); (focus omega)) | (apply P_makeFunc; (focus (repeat constructor)); (focus (repeat constructor))) | (apply P_seq_t; (focus rfl); (focus rfl); (focus (first | assumption | rfl))) | (apply P_seq_f; (focus rfl); (focus rfl); (focus assumption)) | (apply P_sne_t; (focus rfl); (focus rfl); (focus assumption)) | (apply P_sne_f; (focus rfl); (focus rfl); (focus (first | assumption | rfl))))); (focus rfl)) | (apply Lst_cs; (focus rfl); (focus rfl); (focus rfl); (focus rfl); all_goals (intro hc; dsimp only [cmpP] at hc))))
    · rw [if_pos hc] at ho
      (apply retQ1; (focus rfl))
      exact ⟨by rw [← ho]; rfl, rfl⟩
    · rw [if_neg hc] at ho
      refine rndQ_n (k + 1) ⟨by omega, ho, rfl⟩ ⟨rfl, rfl, rfl, rfl, trivial⟩ (by omega)
  · obtain rfl : k = zs.length := by omega
    rw [List.drop_length] at ho
    (apply retQ1; (focus rfl))
    exact ⟨by rw [← ho]; rfl, rfl⟩
/-- A value. -/
structure Vl where
  k : Int
  n : Int
  f : Nat
  s : ByteArray
def Vl.v (x : Vl) : Value := .agg #[.int .i64 x.k, .int .i64 x.n, .float .f64 x.f, .string x.s]
structure Vl.Fit (x : Vl) : Prop where
  k0 : -9223372036854775808 ≤ x.k
  k1 : x.k < 9223372036854775808
  n0 : -9223372036854775808 ≤ x.n
  n1 : x.n < 9223372036854775808
  f1 : x.f < 18446744073709551616
  s1 : x.s.size < 140737488355328
/-- Two values in order. -/
def cmpV (x y : Vl) : Int := orL [cmpI x.k y.k, cmpI x.n y.n, cmpI (K x.f) (K y.f), cmpS x.s y.s]
theorem c_Cmp (x y : Vl) (hx : x.Fit) (hy : y.Fit) (w : World) : Does Tryd.prog 58 #[x.v, y.v] w fun v w' => v = .int .i64 (cmpV x y) ∧ Below w.heap.size w w' := by
  obtain ⟨k, n, f, s⟩ := x
  obtain ⟨k', n', f', s'⟩ := y
  refine Does_of (args := [.agg #[.int .i64 k, .int .i64 n, .float .f64 f, .string s], .agg #[.int .i64 k', .int .i64 n', .float .f64 f', .string s']]) Tryd.func58 (by kernel_rfl) rfl rfl rfl rfl rfl ?_
  (refine Gf ?_)
  refine W_draw 20 (fun A' => A' = World.drew _) rfl (by kernel_rfl) rfl ?_
  (refine Qf ?_)
  apply Qst_call (.int .i64 (cmpI k k'))
  focus rfl
  focus rfl
  · rintro _ rfl
    exact (c_ints k k' _).mono fun v w' h => ⟨h.1, h.2.symm⟩
  (refine Qf ?_)
  apply Qst_call (.int .i64 (cmpI n n'))
  focus rfl
  focus rfl
  · rintro _ rfl
    exact (c_int64s n n' _).mono fun v w' h => ⟨h.1, h.2.symm⟩
  (refine Qf ?_)
  apply Qst_call (.int .i64 (cmpI (K f) (K f')))
  focus rfl
  focus rfl
  · rintro _ rfl
    exact (c_floats f f' hx.f1 hy.f1 _).mono fun v w' h => ⟨h.1, h.2.symm⟩
  (refine Qf ?_)
  apply Qst_call (.int .i64 (cmpS s s'))
  focus rfl
  focus rfl
  · rintro _ rfl
    exact (c_strings s s' _).mono fun v w' h => ⟨h.1, h.2.symm⟩
  (refine Qf ?_)
  rintro _ rfl
  (refine Gf ?_)
  (apply Lst_slit; (focus rfl); (focus rfl); (focus rfl); (focus rfl); (focus rfl); (focus rfl); (focus rfl); (focus rfl); (focus rfl); (focus (repeat (first | apply FillO.nil | (apply FillO.cons; (focus constructor); (focus rfl); (focus rfl); (focus (repeat constructor)))))); (focus ((try simp only [Sx.sizes]); first | done | rfl)); (focus rfl))
  (refine Gf ?_)
  (apply Lst_call; (focus rfl); (focus rfl))
  refine (c_or _ 4 [cmpI k k', cmpI n n', cmpI (K f) (K f'), cmpS s s'] _ ?_ (by simp)).mono ?_
  · exact Ints.of_blk (e := 3) 4 (by (repeat (first | assumption | (apply Blk.below (hb := hb1); rotate_left; (focus ((try simp only [Sx.sizes]); omega)); rotate_right) | (apply Blk.below (hb := hb2); rotate_left; (focus ((try simp only [Sx.sizes]); omega)); rotate_right) | (apply Blk.below (hb := hb3); rotate_left; (focus ((try simp only [Sx.sizes]); omega)); rotate_right) | (apply Blk.below (hb := hb4); rotate_left; (focus ((try simp only [Sx.sizes]); omega)); rotate_right) | (apply Blk.below (hb := hb5); rotate_left; (focus ((try simp only [Sx.sizes]); omega)); rotate_right) | (apply Blk.below (hb := hb6); rotate_left; (focus ((try simp only [Sx.sizes]); omega)); rotate_right) | (apply Blk.below (hb := hb7); rotate_left; (focus ((try simp only [Sx.sizes]); omega)); rotate_right) | (apply Blk.below (hb := hb8); rotate_left; (focus ((try simp only [Sx.sizes]); omega)); rotate_right) | (apply Blk.below (hb := hb9); rotate_left; (focus ((try simp only [Sx.sizes]); omega)); rotate_right) | exact Blk.newE (by first | rfl | ((try simp only [Sx.sizes]); first | done | omega)) _ _ | exact Blk.put_same (by (try simp only [Sx.sizes]); first | done | omega) _ _ | (apply Blk.put_ne; (focus omega)) | apply Blk.alloc | apply Blk.drew)); done)
  rintro v w' ⟨rfl, rfl⟩
  (refine Gf ?_)
  (apply retQ1; (focus rfl))
  exact ⟨rfl, Bel⟩
theorem c_Same (x y : Vl) (hx : x.Fit) (hy : y.Fit) (w : World) : Does Tryd.prog 45 #[x.v, y.v] w fun v w' => v = .bool (decide (cmpV x y = 0)) ∧ Below w.heap.size w w' := by
  refine Does_of (args := [x.v, y.v]) Tryd.func45 (by kernel_rfl) rfl rfl rfl rfl rfl ?_
  (refine Gf ?_)
  (apply Lst_call; (focus rfl); (focus rfl))
  refine (c_Cmp x y hx hy _).mono ?_
  rintro v w1 ⟨rfl, hb1⟩
  have b1 := Sx.Below.after (w := w) Bel hb1
  have s1 := hb1.size
  try simp only [Sx.sizes] at s1
  (repeat' (first | (apply W_seq) | (apply W_region) | (apply W_block) | (apply W_skip) | (apply W_ret) | (apply W_exit) | (apply W_cond_t; (focus rfl)) | (apply W_cond_f; (focus rfl)) | (apply Lst_nil) | (apply seqQ_n) | (apply seqQ_r) | (apply seqQ_e) | (apply blkQ_n) | (apply blkQ_r) | (apply blkQ_e) | (apply blkQ_o; (focus rfl)) | (apply rndQ_r) | (apply rndQ_e) | (apply cutQ_r) | (apply cutQ_e) | (apply Lst_guard_t; (focus rfl); (focus rfl)) | (apply Lst_guard_f; (focus rfl); (focus rfl); (focus rfl); (focus rfl)) | (apply Lst_guard_u; (focus rfl); (focus rfl); (focus rfl)) | (apply Lst_rangeS; (focus rfl); (focus rfl); (focus ((try simp only [Sx.sizes]); first | done | rfl)); (focus rfl)) | (apply Lst_alloc; (focus rfl); (focus rfl); (focus rfl); (focus ((try simp only [Sx.sizes]); first | done | rfl)); (focus rfl)) | (apply Lst_box; (focus constructor); (focus rfl); (focus ((try simp only [Sx.sizes]); first | done | rfl)); (focus rfl)) | (apply Lst_load; (focus rfl); (focus rfl); (focus rfl); (focus ((repeat (first | assumption | (apply Blk.below (hb := hb1); rotate_left; (focus ((try simp only [Sx.sizes]); omega)); rotate_right) | (apply Blk.below (hb := hb2); rotate_left; (focus ((try simp only [Sx.sizes]); omega)); rotate_right) | (apply Blk.below (hb := hb3); rotate_left; (focus ((try simp only [Sx.sizes]); omega)); rotate_right) | (apply Blk.below (hb := hb4); rotate_left; (focus ((try simp only [Sx.sizes]); omega)); rotate_right) | (apply Blk.below (hb := hb5); rotate_left; (focus ((try simp only [Sx.sizes]); omega)); rotate_right) | (apply Blk.below (hb := hb6); rotate_left; (focus ((try simp only [Sx.sizes]); omega)); rotate_right) | (apply Blk.below (hb := hb7); rotate_left; (focus ((try simp only [Sx.sizes]); omega)); rotate_right) | (apply Blk.below (hb := hb8); rotate_left; (focus ((try simp only [Sx.sizes]); omega)); rotate_right) | (apply Blk.below (hb := hb9); rotate_left; (focus ((try simp only [Sx.sizes]); omega)); rotate_right) | exact Blk.newE (by first | rfl | ((try simp only [Sx.sizes]); first | done | omega)) _ _ | exact Blk.put_same (by (try simp only [Sx.sizes]); first | done | omega) _ _ | (apply Blk.put_ne; (focus omega)) | apply Blk.alloc | apply Blk.drew)); done)); (focus rfl); (focus rfl)) | (apply Lst_loadc; (focus rfl); (focus rfl); (focus rfl); (focus assumption); (focus rfl)) | (apply Lst_store; (focus rfl); (focus constructor); (focus rfl); (focus rfl); (focus rfl); (focus rfl); (focus ((repeat (first | assumption | (apply Blk.below (hb := hb1); rotate_left; (focus ((try simp only [Sx.sizes]); omega)); rotate_right) | (apply Blk.below (hb := hb2); rotate_left; (focus ((try simp only [Sx.sizes]); omega)); rotate_right) | (apply Blk.below (hb := hb3); rotate_left; (focus ((try simp only [Sx.sizes]); omega)); rotate_right) | (apply Blk.below (hb := hb4); rotate_left; (focus ((try simp only [Sx.sizes]); omega)); rotate_right) | (apply Blk.below (hb := hb5); rotate_left; (focus ((try simp only [Sx.sizes]); omega)); rotate_right) | (apply Blk.below (hb := hb6); rotate_left; (focus ((try simp only [Sx.sizes]); omega)); rotate_right) | (apply Blk.below (hb := hb7); rotate_left; (focus ((try simp only [Sx.sizes]); omega)); rotate_right) | (apply Blk.below (hb := hb8); rotate_left; (focus ((try simp only [Sx.sizes]); omega)); rotate_right) | (apply Blk.below (hb := hb9); rotate_left; (focus ((try simp only [Sx.sizes]); omega)); rotate_right) | exact Blk.newE (by first | rfl | ((try simp only [Sx.sizes]); first | done | omega)) _ _ | exact Blk.put_same (by (try simp only [Sx.sizes]); first | done | omega) _ _ | (apply Blk.put_ne; (focus omega)) | apply Blk.alloc | apply Blk.drew)); done)); (focus ((repeat constructor); done))) | (apply Lst_loadA; (focus rfl); (focus rfl); (focus rfl); (focus rfl); (focus rfl); (focus ((repeat (first | assumption | (apply Blk.below (hb := hb1); rotate_left; (focus ((try simp only [Sx.sizes]); omega)); rotate_right) | (apply Blk.below (hb := hb2); rotate_left; (focus ((try simp only [Sx.sizes]); omega)); rotate_right) | (apply Blk.below (hb := hb3); rotate_left; (focus ((try simp only [Sx.sizes]); omega)); rotate_right) | (apply Blk.below (hb := hb4); rotate_left; (focus ((try simp only [Sx.sizes]); omega)); rotate_right) | (apply Blk.below (hb := hb5); rotate_left; (focus ((try simp only [Sx.sizes]); omega)); rotate_right) | (apply Blk.below (hb := hb6); rotate_left; (focus ((try simp only [Sx.sizes]); omega)); rotate_right) | (apply Blk.below (hb := hb7); rotate_left; (focus ((try simp only [Sx.sizes]); omega)); rotate_right) | (apply Blk.below (hb := hb8); rotate_left; (focus ((try simp only [Sx.sizes]); omega)); rotate_right) | (apply Blk.below (hb := hb9); rotate_left; (focus ((try simp only [Sx.sizes]); omega)); rotate_right) | exact Blk.newE (by first | rfl | ((try simp only [Sx.sizes]); first | done | omega)) _ _ | exact Blk.put_same (by (try simp only [Sx.sizes]); first | done | omega) _ _ | (apply Blk.put_ne; (focus omega)) | apply Blk.alloc | apply Blk.drew)); done)); (focus (repeat constructor)); (focus rfl)) | (apply Lst_storeA; (focus rfl); (focus rfl); (focus rfl); (focus rfl); (focus (simp [Value.oneCell'])); (focus ((repeat (first | assumption | (apply Blk.below (hb := hb1); rotate_left; (focus ((try simp only [Sx.sizes]); omega)); rotate_right) | (apply Blk.below (hb := hb2); rotate_left; (focus ((try simp only [Sx.sizes]); omega)); rotate_right) | (apply Blk.below (hb := hb3); rotate_left; (focus ((try simp only [Sx.sizes]); omega)); rotate_right) | (apply Blk.below (hb := hb4); rotate_left; (focus ((try simp only [Sx.sizes]); omega)); rotate_right) | (apply Blk.below (hb := hb5); rotate_left; (focus ((try simp only [Sx.sizes]); omega)); rotate_right) | (apply Blk.below (hb := hb6); rotate_left; (focus ((try simp only [Sx.sizes]); omega)); rotate_right) | (apply Blk.below (hb := hb7); rotate_left; (focus ((try simp only [Sx.sizes]); omega)); rotate_right) | (apply Blk.below (hb := hb8); rotate_left; (focus ((try simp only [Sx.sizes]); omega)); rotate_right) | (apply Blk.below (hb := hb9); rotate_left; (focus ((try simp only [Sx.sizes]); omega)); rotate_right) | exact Blk.newE (by first | rfl | ((try simp only [Sx.sizes]); first | done | omega)) _ _ | exact Blk.put_same (by (try simp only [Sx.sizes]); first | done | omega) _ _ | (apply Blk.put_ne; (focus omega)) | apply Blk.alloc | apply Blk.drew)); done)); (focus (repeat constructor))) | (apply Lst_pu; (focus (first | (apply P_neg; (focus rfl); (focus (first | assumption | exact wi64 (by omega) (by omega) | exact wu64 (by omega) (by omega) | exact wi32 (by omega) (by omega) | exact wu8 (by omega) (by omega) | rfl))) | (apply P_move; (focus constructor)) | (apply P_assign; (focus constructor)) | (apply P_ar; (focus rfl); (focus rfl); (focus rfl); (focus (first | assumption | exact wi64 (by omega) (by omega) | exact wu64 (by omega) (by omega) | exact wi32 (by omega) (by omega) | exact wu8 (by omega) (by omega) | rfl))) | (apply P_ct; (focus rfl); (focus rfl); (focus rfl); (focus (dsimp only [cmpP]; first | done | omega))) | (apply P_cf; (focus rfl); (focus rfl); (focus rfl); (focus (dsimp only [cmpP]; first | done | omega))) | (apply P_pick_t; (focus rfl); (focus constructor)) | (apply P_pick_f; (focus rfl); (focus constructor)) | (apply P_extract; (focus rfl); (focus rfl)) | (apply P_not; (focus rfl); (focus rfl)) | (apply P_slen; (focus rfl); (focus rfl)) | (apply P_llen; (focus rfl); (focus rfl)) | (apply P_beq; (focus rfl); (focus rfl); (focus rfl); (focus (first | exact beq_self_eq_true _ | rfl))) | (apply P_bne; (focus rfl); (focus rfl); (focus rfl); (focus (first | exact bne_self_eq_false _ | rfl))) | (apply P_sadd; (focus rfl); (focus rfl); (focus omega)) | (apply P_max; (focus rfl); (focus rfl)) | (apply P_min; (focus rfl); (focus rfl)) | (apply P_idx1; (focus rfl); (focus rfl); (focus rfl); (focus rfl); (focus rfl); (focus omega)) | (apply P_nilCheck; (focus rfl)) | (apply P_conv; (focus rfl); (focus rfl); (focus rfl); (focus (first | assumption | exact wi64 (by omega) (by omega) | exact wu64 (by omega) (by omega) | exact wi32 (by omega) (by omega) | exact wu8 (by omega) (by omega) | rfl))) | (apply P_sindex0; (focus rfl); (focus rfl); (focus rfl); (focus omega)) | (apply P_sindexN; (focus rfl); (focus rfl); (focus rfl); (focus omega)) | (apply P_sindex; (focus rfl); (focus rfl); (focus rfl); (focus omega); (focus omega)) | (apply P_makeFunc; (focus (repeat constructor)); (focus (repeat constructor))) | (apply P_seq_t; (focus rfl); (focus rfl); (focus (first | assumption | rfl))) | (apply P_seq_f; (focus rfl); (focus rfl); (focus assumption)) | (apply P_sne_t; (focus rfl); (focus rfl); (focus assumption)) | (apply P_sne_f; (focus rfl); (focus rfl); (focus (first | assumption | rfl))) | (apply P_faddr; (focus rfl); (focus rfl); (focus rfl); (focus rfl); (focus rfl); (focus rfl); (focus (first | (simp only [Nat.zero_add, Nat.add_zero, List.getElem_toArray, List.getElem_cons_zero, List.getElem_cons_succ]; rfl) | rfl))) | (apply P_field; (focus rfl); (focus rfl); (focus rfl); (focus rfl); (focus rfl); (focus rfl)) | (apply P_fieldA; (focus rfl); (focus rfl); (focus rfl); (focus rfl); (focus rfl); (focus rfl); (focus rfl); (focus rfl); (focus (repeat constructor))) | (apply P_build; (focus rfl); (focus rfl); (focus rfl); (focus rfl); (focus rfl); (focus (repeat (first | apply FillO.nil | (apply FillO.cons; (focus constructor); (focus rfl); (focus rfl); (focus (repeat constructor))))))) | (apply P_eqA; (focus rfl); (focus rfl); (focus (kernel_rfl)); (focus (first | (apply Eqv_int_t; (focus rfl); (focus (first | rfl | omega))) | (apply Eqv_int_f; (focus rfl); (focus omega)) | (apply Eqv_str_t; (focus rfl); (focus (first | rfl | assumption))) | (apply Eqv_str_f; (focus rfl); (focus assumption)) | (apply Eqv_bool; (focus rfl); (focus (first | exact beq_self_eq_true _ | rfl))) | (apply Eqv_struct; (focus rfl); (focus (first | rfl | kernel_rfl)); (repeat (first | exact EqvF_nil | (apply EqvF_t; (focus rfl); (focus (first | (apply PartR_1; (focus rfl); (focus rfl); (focus rfl)) | (apply PartR_A; (focus rfl); (focus rfl); (focus rfl); (focus rfl); (focus (repeat constructor))))); (focus (first | (apply PartR_1; (focus rfl); (focus rfl); (focus rfl)) | (apply PartR_A; (focus rfl); (focus rfl); (focus rfl); (focus rfl); (focus (repeat constructor))))); (focus (first | (apply Eqv_int_t; (focus rfl); (focus (first | rfl | omega))) | (apply Eqv_int_f; (focus rfl); (focus omega)) | (apply Eqv_str_t; (focus rfl); (focus (first | rfl | assumption))) | (apply Eqv_str_f; (focus rfl); (focus assumption)) | (apply Eqv_bool; (focus rfl); (focus (first | exact beq_self_eq_true _ | rfl))) | (apply Eqv_struct; (focus rfl); (focus (first | rfl | kernel_rfl)); (repeat (first | exact EqvF_nil | (apply EqvF_t; (focus rfl); (focus (first | (apply PartR_1; (focus rfl); (focus rfl); (focus rfl)) | (apply PartR_A; (focus rfl); (focus rfl); (focus rfl); (focus rfl); (focus (repeat constructor))))); (focus (first | (apply PartR_1; (focus rfl); (focus rfl); (focus rfl)) | (apply PartR_A; (focus rfl); (focus rfl); (focus rfl); (focus rfl); (focus (repeat constructor))))); (focus (first | (apply Eqv_int_t; (focus rfl); (focus (first | rfl | omega))) | (apply Eqv_int_f; (focus rfl); (focus omega)) | (apply Eqv_str_t; (focus rfl); (focus (first | rfl | assumption))) | (apply Eqv_str_f; (focus rfl); (focus assumption)) | (apply Eqv_bool; (focus rfl); (focus (first | exact beq_self_eq_true _ | rfl)))))) | (apply EqvF_f; (focus rfl); (focus (first | (apply PartR_1; (focus rfl); (focus rfl); (focus rfl)) | (apply PartR_A; (focus rfl); (focus rfl); (focus rfl); (focus rfl); (focus (repeat constructor))))); (focus (first | (apply PartR_1; (focus rfl); (focus rfl); (focus rfl)) | (apply PartR_A; (focus rfl); (focus rfl); (focus rfl); (focus rfl); (focus (repeat constructor))))); (focus (first | (apply Eqv_int_t; (focus rfl); (focus (first | rfl | omega))) | (apply Eqv_int_f; (focus rfl); (focus omega)) | (apply Eqv_str_t; (focus rfl); (focus (first | rfl | assumption))) | (apply Eqv_str_f; (focus rfl); (focus assumption)) | (apply Eqv_bool; (focus rfl); (focus (first | exact beq_self_eq_true _ | rfl)))))))))))) | (apply EqvF_f; (focus rfl); (focus (first | (apply PartR_1; (focus rfl); (focus rfl); (focus rfl)) | (apply PartR_A; (focus rfl); (focus rfl); (focus rfl); (focus rfl); (focus (repeat constructor))))); (focus (first | (apply PartR_1; (focus rfl); (focus rfl); (focus rfl)) | (apply PartR_A; (focus rfl); (focus rfl); (focus rfl); (focus rfl); (focus (repeat constructor))))); (focus (first | (apply Eqv_int_t; (focus rfl); (focus (first | rfl | omega))) | (apply Eqv_int_f; (focus rfl); (focus omega)) | (apply Eqv_str_t; (focus rfl); (focus (first | rfl | assumption))) | (apply Eqv_str_f; (focus rfl); (focus assumption)) | (apply Eqv_bool; (focus rfl); (focus (first | exact beq_self_eq_true _ | rfl))) | (apply Eqv_struct; (focus rfl); (focus (first | rfl | kernel_rfl)); (repeat (first | exact EqvF_nil | (apply EqvF_t; (focus rfl); (focus (first | (apply PartR_1; (focus rfl); (focus rfl); (focus rfl)) | (apply PartR_A; (focus rfl); (focus rfl); (focus rfl); (focus rfl); (focus (repeat constructor))))); (focus (first | (apply PartR_1; (focus rfl); (focus rfl); (focus rfl)) | (apply PartR_A; (focus rfl); (focus rfl); (focus rfl); (focus rfl); (focus (repeat constructor))))); (focus (first | (apply Eqv_int_t; (focus rfl); (focus (first | rfl | omega))) | (apply Eqv_int_f; (focus rfl); (focus omega)) | (apply Eqv_str_t; (focus rfl); (focus (first | rfl | assumption))) | (apply Eqv_str_f; (focus rfl); (focus assumption)) | (apply Eqv_bool; (focus rfl); (focus (first | exact beq_self_eq_true _ | rfl)))))) | (apply EqvF_f; (focus rfl); (focus (first | (apply PartR_1; (focus rfl); (focus rfl); (focus rfl)) | (apply PartR_A; (focus rfl); (focus rfl); (focus rfl); (focus rfl); (focus (repeat constructor))))); (focus (first | (apply PartR_1; (focus rfl); (focus rfl); (focus rfl)) | (apply PartR_A; (focus rfl); (focus rfl); (focus rfl); (focus rfl); (focus (repeat constructor))))); (focus (first | (apply Eqv_int_t; (focus rfl); (focus (first | rfl | omega))) | (apply Eqv_int_f; (focus rfl); (focus omega)) | (apply Eqv_str_t; (focus rfl); (focus (first | rfl | assumption))) | (apply Eqv_str_f; (focus rfl); (focus assumption)) | (apply Eqv_bool; (focus rfl); (focus (first | exact beq_self_eq_true _ | rfl))))))))))))))))); (focus rfl)) | (apply P_neA; (focus rfl); (focus rfl); (focus (kernel_rfl)); (focus (first | (apply Eqv_int_t; (focus rfl); (focus (first | rfl | omega))) | (apply Eqv_int_f; (focus rfl); (focus omega)) | (apply Eqv_str_t; (focus rfl); (focus (first | rfl | assumption))) | (apply Eqv_str_f; (focus rfl); (focus assumption)) | (apply Eqv_bool; (focus rfl); (focus (first | exact beq_self_eq_true _ | rfl))) | (apply Eqv_struct; (focus rfl); (focus (first | rfl | kernel_rfl)); (repeat (first | exact EqvF_nil | (apply EqvF_t; (focus rfl); (focus (first | (apply PartR_1; (focus rfl); (focus rfl); (focus rfl)) | (apply PartR_A; (focus rfl); (focus rfl); (focus rfl); (focus rfl); (focus (repeat constructor))))); (focus (first | (apply PartR_1; (focus rfl); (focus rfl); (focus rfl)) | (apply PartR_A; (focus rfl); (focus rfl); (focus rfl); (focus rfl); (focus (repeat constructor))))); (focus (first | (apply Eqv_int_t; (focus rfl); (focus (first | rfl | omega))) | (apply Eqv_int_f; (focus rfl); (focus omega)) | (apply Eqv_str_t; (focus rfl); (focus (first | rfl | assumption))) | (apply Eqv_str_f; (focus rfl); (focus assumption)) | (apply Eqv_bool; (focus rfl); (focus (first | exact beq_self_eq_true _ | rfl))) | (apply Eqv_struct; (focus rfl); (focus (first | rfl | kernel_rfl)); (repeat (first | exact EqvF_nil | (apply EqvF_t; (focus rfl); (focus (first | (apply PartR_1; (focus rfl); (focus rfl); (focus rfl)) | (apply PartR_A; (focus rfl); (focus rfl); (focus rfl); (focus rfl); (focus (repeat constructor))))); (focus (first | (apply PartR_1; (focus rfl); (focus rfl); (focus rfl)) | (apply PartR_A; (focus rfl); (focus rfl); (focus rfl); (focus rfl); (focus (repeat constructor))))); (focus (first | (apply Eqv_int_t; (focus rfl); (focus (first | rfl | omega))) | (apply Eqv_int_f; (focus rfl); (focus omega)) | (apply Eqv_str_t; (focus rfl); (focus (first | rfl | assumption))) | (apply Eqv_str_f; (focus rfl); (focus assumption)) | (apply Eqv_bool; (focus rfl); (focus (first | exact beq_self_eq_true _ | rfl)))))) | (apply EqvF_f; (focus rfl); (focus (first | (apply PartR_1; (focus rfl); (focus rfl); (focus rfl)) | (apply PartR_A; (focus rfl); (focus rfl); (focus rfl); (focus rfl); (focus (repeat constructor))))); (focus (first | (apply PartR_1; (focus rfl); (focus rfl); (focus rfl)) | (apply PartR_A; (focus rfl); (focus rfl); (focus rfl); (focus rfl); (focus (repeat constructor))))); (focus (first | (apply Eqv_int_t; (focus rfl); (focus (first | rfl | omega))) | (apply Eqv_int_f; (focus rfl); (focus omega)) | (apply Eqv_str_t; (focus rfl); (focus (first | rfl | assumption))) | (apply Eqv_str_f; (focus rfl); (focus assumption)) | (apply Eqv_bool; (focus rfl); (focus (first | exact beq_self_eq_true _ | rfl)))))))))))) | (apply EqvF_f; (focus rfl); (focus (first | (apply PartR_1; (focus rfl); (focus rfl); (focus rfl)) | (apply PartR_A; (focus rfl); (focus rfl); (focus rfl); (focus rfl); (focus (repeat constructor))))); (focus (first | (apply PartR_1; (focus rfl); (focus rfl); (focus rfl)) | (apply PartR_A; (focus rfl); (focus rfl); (focus rfl); (focus rfl); (focus (repeat constructor))))); (focus (first | (apply Eqv_int_t; (focus rfl); (focus (first | rfl | omega))) | (apply Eqv_int_f; (focus rfl); (focus omega)) | (apply Eqv_str_t; (focus rfl); (focus (first | rfl | assumption))) | (apply Eqv_str_f; (focus rfl); (focus assumption)) | (apply Eqv_bool; (focus rfl); (focus (first | exact beq_self_eq_true _ | rfl))) | (apply Eqv_struct; (focus rfl); (focus (first | rfl | kernel_rfl)); (repeat (first | exact EqvF_nil | (apply EqvF_t; (focus rfl); (focus (first | (apply PartR_1; (focus rfl); (focus rfl); (focus rfl)) | (apply PartR_A; (focus rfl); (focus rfl); (focus rfl); (focus rfl); (focus (repeat constructor))))); (focus (first | (apply PartR_1; (focus rfl); (focus rfl); (focus rfl)) | (apply PartR_A; (focus rfl); (focus rfl); (focus rfl); (focus rfl); (focus (repeat constructor))))); (focus (first | (apply Eqv_int_t; (focus rfl); (focus (first | rfl | omega))) | (apply Eqv_int_f; (focus rfl); (focus omega)) | (apply Eqv_str_t; (focus rfl); (focus (first | rfl | assumption))) | (apply Eqv_str_f; (focus rfl); (focus assumption)) | (apply Eqv_bool; (focus rfl); (focus (first | exact beq_self_eq_true _ | rfl)))))) | (apply EqvF_f; (focus rfl); (focus (first | (apply PartR_1; (focus rfl); (focus rfl); (focus rfl)) | (apply PartR_A; (focus rfl); (focus rfl); (focus rfl); (focus rfl); (focus (repeat constructor))))); (focus (first | (apply PartR_1; (focus rfl); (focus rfl); (focus rfl)) | (apply PartR_A; (focus rfl); (focus rfl); (focus rfl); (focus rfl); (focus (repeat constructor))))); (focus (first | (apply Eqv_int_t; (focus rfl); (focus (first | rfl | omega))) | (apply Eqv_int_f; (focus rfl); (focus omega)) | (apply Eqv_str_t; (focus rfl); (focus (first | rfl | assumption))) | (apply Eqv_str_f; (focus rfl); (focus assumption)) | (apply Eqv_bool; (focus rfl); (focus (first | exact beq_self_eq_true _ | rfl))))))))))))))))); (focus rfl)) | (apply P_fadd; (focus rfl); (focus rfl); (focus assumption)) | (apply P_scmp; (focus rfl); (focus rfl); (focus rfl); (focus assumption); (focus rfl)) | (apply P_fneg; (focus rfl); (focus (first | assumption | rfl))) | (apply P_toflt; (focus rfl); (focus rfl); (focus rfl); (focus rfl)) | (apply P_fltflt; (focus rfl); (focus rfl); (focus rfl)) | (apply P_fcmp; (focus rfl); (focus rfl); (focus rfl); (focus assumption); (focus rfl)) | (apply P_bits; (focus rfl); (focus rfl); (focus rfl); (focus rfl); (focus (kernel_rfl)); (focus (kernel_rfl)); (focus (kernel_rfl))) | (apply P_frombits; (focus rfl); (focus rfl); (focus rfl); (focus rfl); (focus (kernel_rfl)); (focus (kernel_rfl)); (focus (kernel_rfl))))); (focus rfl)) | (apply Lst_cs; (focus rfl); (focus rfl); (focus rfl); (focus rfl); all_goals (intro hc; dsimp only [cmpP] at hc))))
  · (apply retQ1; (focus rfl))
    exact ⟨by rw [decide_eq_true (by assumption)]; rfl, b1⟩
  · (apply retQ1; (focus rfl))
    exact ⟨by rw [decide_eq_false (by assumption)]; rfl, b1⟩
/-- A value, its NaN the one. -/
def cleanV (x : Vl) : Vl := { x with f := nbits x.f }
theorem c_Clean (x : Vl) (w : World) : Does Tryd.prog 48 #[x.v] w fun v w' => v = (cleanV x).v ∧ Below w.heap.size w w' := by
  obtain ⟨k, n, f, s⟩ := x
  refine Does_of (args := [.agg #[.int .i64 k, .int .i64 n, .float .f64 f, .string s]]) Tryd.func48 (by kernel_rfl) rfl rfl rfl rfl rfl ?_
  unfold cleanV nbits
  (refine Gf ?_)
  (apply Lst_call; (focus rfl); (focus rfl))
  refine (c_isNaN f _).mono ?_
  rintro v w' ⟨rfl, rfl⟩
  cases h : isNaN f
  · (refine Gf ?_)
    (refine Reta ?_)
    exact ⟨rfl, Bel⟩
  · (refine Gf ?_)
    (refine Reta ?_)
    exact ⟨rfl, Bel⟩
/-- What value.float makes of a value. -/
def numV (x : Vl) : Option Nat := if x.k = 2 then some (FloatKind.f64.nearest x.n) else if x.k = 3 then some x.f else none
/-- A sum of two floats, its NaN the one. -/
def sumF (p q : Nat) : Nat := match Ieee.double.add p q with | some r => nbits r | none => 9221120237041090560
theorem sumF_some {p q r : Nat} (h : Ieee.double.add p q = some r) : sumF p q = nbits r := by unfold sumF; rw [h]
theorem sumF_none {p q : Nat} (h : Ieee.double.add p q = none) : sumF p q = 9221120237041090560 := by unfold sumF; rw [h]
theorem nbits_nan {r : Nat} (h : isNaN r = true) : nbits r = 9221120237041090560 := by unfold nbits; rw [if_pos h]
/-- What value.Add makes of two values. -/
def addV (x y : Vl) : Vl := if x.k = 2 ∧ y.k = 2 then ⟨2, IntKind.i64.wrap (x.n + y.n), 0, ⟨#[]⟩⟩ else
  match numV x, numV y with | some p, some q => ⟨3, 0, sumF p q, ⟨#[]⟩⟩ | _, _ => ⟨0, 0, 0, ⟨#[]⟩⟩
end Val
namespace Val
open Go Go.RowKit Sx Fl
attribute [local irreducible] W Lst Qst Pu seqQ blkQ rndQ cutQ retQ Does Enters IntKind.wrap bits sb World.alloc World.putObj Blk
/-- Is a value taken? -/
def okV (x : Vl) : Bool :=
  if x.k = 0 ∨ x.k = 5 then x.n = 0 ∧ x.f = 0 ∧ x.s = ⟨#[]⟩
  else if x.k = 1 then (x.n = 0 ∨ x.n = 1) ∧ x.f = 0 ∧ x.s = ⟨#[]⟩
  else if x.k = 2 then x.f = 0 ∧ x.s = ⟨#[]⟩
  else if x.k = 3 then x.n = 0 ∧ x.s = ⟨#[]⟩
  else if x.k = 4 then x.n = 0 ∧ x.f = 0 ∧ x.s.size ≤ 4096 ∧ Lib.validD x.s.data.toList = true
  else false
theorem nbits_zero : nbits 0 = 0 := rfl
theorem nbits_eq (f : Nat) : nbits f = 0 ↔ f = 0 := by
  unfold nbits
  by_cases h : isNaN f = true
  · rw [if_pos h]
    constructor
    · intro h; omega
    · intro e; subst e; exact absurd h (by decide)
  · rw [if_neg h]
end Val
end Go.Proofs.YtglfoofclicfpaaDoor
