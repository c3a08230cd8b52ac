/- Plain facts about texts as runes: decoding a list of bytes into runes, encoding runes, counts of UTF-16 units, cuts and places. No program in sight. -/
import Derived.Lib.ValidLaws
import Derived.Lib.RuneCount
import Derived.Laws.Cover4
namespace Go.Proofs.YtmgipnckojopcaaGreat
namespace Utf
open Go.Lib

def bad (l : List UInt8) : Bool := decide ((decodeL l).1 = 65533 ∧ (decodeL l).2 = 1)
def runesF : Nat → List UInt8 → Option (List Int)
  | 0, _ => some []
  | n + 1, l => if l = [] then some [] else if bad l then none else (runesF n (l.drop (decodeL l).2)).map (fun rs => ((decodeL l).1 : Int) :: rs)
def runesL (l : List UInt8) : Option (List Int) := runesF l.length l
/-- The runes of a text; none where it is no text. -/
def rs (l : List UInt8) : List Int := (runesL l).getD []
def enc (l : List Int) : List UInt8 := l.flatMap encodeRune
theorem runesF_nil : ∀ n, runesF n [] = some []
  | 0 => rfl
  | _ + 1 => by simp [runesF]
theorem runesF_fuel : ∀ (n m : Nat) (l : List UInt8), l.length ≤ n → l.length ≤ m → runesF n l = runesF m l
  | 0, m, l, hn, _ => by
    have : l = [] := List.eq_nil_of_length_eq_zero (by omega)
    subst this
    rw [runesF_nil, runesF_nil]
  | n + 1, 0, l, _, hm => by
    have : l = [] := List.eq_nil_of_length_eq_zero (by omega)
    subst this
    rw [runesF_nil, runesF_nil]
  | n + 1, m + 1, l, hn, hm => by
    by_cases hne : l = []
    · subst hne; rw [runesF_nil, runesF_nil]
    · have hw := decodeL_width l
      have hl : 0 < l.length := List.length_pos_iff.2 hne
      simp only [runesF, if_neg hne]
      rw [runesF_fuel n m (l.drop (decodeL l).2) (by rw [List.length_drop]; omega) (by rw [List.length_drop]; omega)]
theorem runesL_nil : runesL [] = some [] := rfl
theorem runesL_step (l : List UInt8) (hne : l ≠ []) : runesL l = if bad l then none else (runesL (l.drop (decodeL l).2)).map (fun r => ((decodeL l).1 : Int) :: r) := by
  have hl : 0 < l.length := List.length_pos_iff.2 hne
  have hw := decodeL_width l
  obtain ⟨n, hn⟩ : ∃ n, l.length = n + 1 := ⟨l.length - 1, by omega⟩
  unfold runesL
  rw [hn]
  simp only [runesF, if_neg hne]
  rw [runesF_fuel n _ (l.drop (decodeL l).2) (by rw [List.length_drop]; omega) (Nat.le_refl _)]

/-- Induction along the decoding. -/
theorem byRunes {C : List UInt8 → Prop} (h0 : C []) (h1 : ∀ l, l ≠ [] → C (l.drop (decodeL l).2) → C l) (l : List UInt8) : C l := by
  have key : ∀ n, ∀ l : List UInt8, l.length ≤ n → C l := by
    intro n
    induction n with
    | zero => intro l hl; have : l = [] := List.eq_nil_of_length_eq_zero (by omega); subst this; exact h0
    | succ n ih =>
      intro l hl
      by_cases hne : l = []
      · subst hne; exact h0
      · have hw := decodeL_width l
        have hp : 0 < l.length := List.length_pos_iff.2 hne
        exact h1 l hne (ih _ (by rw [List.length_drop]; omega))
  exact key l.length l (Nat.le_refl _)

theorem isSome_eq (l : List UInt8) : (runesL l).isSome = validD l := by
  refine byRunes (C := fun l => (runesL l).isSome = validD l) rfl ?_ l
  intro l hne ih
  rw [runesL_step l hne, validD_step l hne]
  unfold bad
  by_cases hb : (decodeL l).1 = 65533 ∧ (decodeL l).2 = 1
  · rw [if_pos hb, decide_eq_true hb]; rfl
  · rw [if_neg hb, decide_eq_false hb, ← ih]; simp
theorem rs_none {l : List UInt8} (h : validD l = false) : rs l = [] := by
  rw [← isSome_eq] at h
  unfold rs
  cases hr : runesL l with
  | none => rfl
  | some x => rw [hr] at h; simp at h
theorem valid_of_some {l : List UInt8} {r : List Int} (h : runesL l = some r) : validD l = true ∧ rs l = r := by
  refine ⟨?_, by unfold rs; rw [h]; rfl⟩
  rw [← isSome_eq, h]; rfl

/-! The model's encoder. -/
/-! Counting by the library's count. -/
/-! Units, cuts, places. -/
end Utf
end Go.Proofs.YtmgipnckojopcaaGreat
