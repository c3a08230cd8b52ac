/- Merging in place, plainly: swaps of ranges, rotations, merges. -/
import Derived.Test.YtifkedhbelflkaaDoorOqOpH
namespace Go.Proofs.YtifkedhbelflkaaDoor
set_option maxRecDepth 100000
namespace Op
/-- Two ranges of n, swapped. -/
def swr (f : Nat → Id) (a b n : Nat) (p : Nat) : Id := if a ≤ p ∧ p < a + n then f (p - a + b) else if b ≤ p ∧ p < b + n then f (p - b + a) else f p
/-- The ranges a..m and m..b, one behind the other in the other order. -/
def rot (f : Nat → Id) (a m b : Nat) (p : Nat) : Id := if a ≤ p ∧ p < a + (b - m) then f (p - a + m) else if a + (b - m) ≤ p ∧ p < b then f (p - (b - m)) else f p
theorem swr_zero (f : Nat → Id) (a b : Nat) : swr f a b 0 = f := by
  funext p
  unfold swr
  rw [if_neg (by omega), if_neg (by omega)]
theorem swr_step (f : Nat → Id) {a b i : Nat} (h : a + i < b) : swf (swr f a b i) (a + i) (b + i) = swr f a b (i + 1) := by
  funext p
  unfold swf swr
  repeat' split
  all_goals first | rfl | (exfalso; omega) | exact congrArg f (by omega)
theorem rot_gt (f : Nat → Id) {m i j : Nat} (hi : i ≤ m) (h : j < i) : rot (swr f (m - i) m j) (m - (i - j)) m (m + j) = rot f (m - i) m (m + j) := by
  funext p
  unfold rot swr
  repeat' split
  all_goals first | rfl | (exfalso; omega) | exact congrArg f (by omega)
theorem rot_lt (f : Nat → Id) {m i j : Nat} (hi : i ≤ m) (h : i < j) : rot (swr f (m - i) (m + j - i) i) (m - i) m (m + (j - i)) = rot f (m - i) m (m + j) := by
  funext p
  unfold rot swr
  repeat' split
  all_goals first | rfl | (exfalso; omega) | exact congrArg f (by omega)
theorem rot_eq (f : Nat → Id) {m i : Nat} (hi : i ≤ m) : swr f (m - i) m i = rot f (m - i) m (m + i) := by
  funext p
  unfold rot swr
  repeat' split
  all_goals first | rfl | (exfalso; omega) | exact congrArg f (by omega)
theorem rot_none (f : Nat → Id) {a m b : Nat} (h : a = m ∨ b = m) : rot f a m b = f := by
  funext p
  unfold rot
  repeat' split
  all_goals first | rfl | (exfalso; omega) | exact congrArg f (by omega)
/-- The one at a, moved up to k. -/
def bub (f : Nat → Id) (a k : Nat) (p : Nat) : Id := if a ≤ p ∧ p < k then f (p + 1) else if p = k then f a else f p
theorem bub_zero (f : Nat → Id) (a : Nat) : bub f a a = f := by
  funext p
  unfold bub
  repeat' split
  all_goals first | rfl | (exfalso; omega) | exact congrArg f (by omega)
theorem bub_step (f : Nat → Id) {a k : Nat} (h : a ≤ k) : swf (bub f a k) k (k + 1) = bub f a (k + 1) := by
  funext p
  unfold swf bub
  repeat' split
  all_goals first | rfl | (exfalso; omega) | exact congrArg f (by omega)
/-- The one at m, moved down to k. -/
def dub (f : Nat → Id) (m k : Nat) (p : Nat) : Id := if k < p ∧ p ≤ m then f (p - 1) else if p = k then f m else f p
theorem dub_zero (f : Nat → Id) (m : Nat) : dub f m m = f := by
  funext p
  unfold dub
  repeat' split
  all_goals first | rfl | (exfalso; omega) | exact congrArg f (by omega)
theorem dub_step (f : Nat → Id) {m k : Nat} (h : k + 1 ≤ m) : swf (dub f m (k + 1)) (k + 1) k = dub f m k := by
  funext p
  unfold swf dub
  repeat' split
  all_goals first | rfl | (exfalso; omega) | exact congrArg f (by omega)
/-- What a merge of a..b does. -/
structure Mrg (f g : Nat → Id) (a b : Nat) : Prop where
  out : ∀ p, p < a ∨ b ≤ p → g p = f p
  ins : ∀ p, a ≤ p → p < b → ∃ q, a ≤ q ∧ q < b ∧ g p = f q
  seg : Seg g a b
theorem Mrg.nop {f : Nat → Id} {a b : Nat} (h : Seg f a b) : Mrg f f a b := ⟨fun _ _ => rfl, fun p h1 h2 => ⟨p, h1, h2, rfl⟩, h⟩
theorem mrg_bub {f : Nat → Id} {a b i : Nat} (hs : Seg f (a + 1) b) (hi : a + 1 ≤ i) (hib : i ≤ b) (h1 : ∀ c, a + 1 ≤ c → c < i → lt (f c) (f a) = true) (h2 : ∀ c, i ≤ c → c < b → lt (f a) (f c) = true) : Mrg f (bub f a (i - 1)) a b := by
  refine ⟨fun p hp => ?_, fun p hp hq => ?_, fun p q hp hpq hq => ?_⟩
  · unfold bub
    repeat' split
    all_goals first | rfl | (exfalso; omega) | exact congrArg f (by omega)
  · unfold bub
    repeat' split
    · exact ⟨p + 1, by omega, by omega, rfl⟩
    · exact ⟨a, by omega, by omega, rfl⟩
    · exact ⟨p, by omega, by omega, rfl⟩
  · unfold bub
    repeat' split
    all_goals first | (exfalso; omega) | exact hs _ _ (by omega) (by omega) (by omega) | exact h1 _ (by omega) (by omega) | exact h2 _ (by omega) (by omega)
theorem mrg_dub {f : Nat → Id} {a m i : Nat} (hs : Seg f a m) (hi : a ≤ i) (him : i ≤ m) (h1 : ∀ c, a ≤ c → c < i → lt (f c) (f m) = true) (h2 : ∀ c, i ≤ c → c < m → lt (f m) (f c) = true) : Mrg f (dub f m i) a (m + 1) := by
  refine ⟨fun p hp => ?_, fun p hp hq => ?_, fun p q hp hpq hq => ?_⟩
  · unfold dub
    repeat' split
    all_goals first | rfl | (exfalso; omega) | exact congrArg f (by omega)
  · unfold dub
    repeat' split
    · exact ⟨p - 1, by omega, by omega, rfl⟩
    · exact ⟨m, by omega, by omega, rfl⟩
    · exact ⟨p, by omega, by omega, rfl⟩
  · unfold dub
    repeat' split
    all_goals first | (exfalso; omega) | exact hs _ _ (by omega) (by omega) (by omega) | exact h1 _ (by omega) (by omega) | exact h2 _ (by omega) (by omega)
/-- The halves of a rotation that stands where the search ended: each two runs, all on the left below all on the right. -/
theorem rot_halves {f : Nat → Id} {a m b mid s e : Nat} (h1 : Seg f a m) (h2 : Seg f m b) (has : a ≤ s) (hsm : s ≤ m) (hme : m ≤ e) (heb : e ≤ b) (hse : s + e = mid + m) (hsmid : s ≤ mid)
    (hl : a < s → e < b → lt (f (s - 1)) (f e) = true) (hr : s < m → m < e → lt (f (e - 1)) (f s) = true) :
    Seg (rot f s m e) a s ∧ Seg (rot f s m e) s mid ∧ Seg (rot f s m e) mid e ∧ Seg (rot f s m e) e b ∧ (∀ x y, a ≤ x → x < mid → mid ≤ y → y < b → lt (rot f s m e x) (rot f s m e y) = true) ∧ (∀ p, p < a ∨ b ≤ p → rot f s m e p = f p) ∧ (∀ p, a ≤ p → p < b → ∃ q, a ≤ q ∧ q < b ∧ rot f s m e p = f q) := by
  have e1 : ∀ p, p < s → rot f s m e p = f p := fun p hp => by
    unfold rot
    rw [if_neg (by omega), if_neg (by omega)]
  have e2 : ∀ p, s ≤ p → p < mid → rot f s m e p = f (p - s + m) := fun p hp hq => by
    unfold rot
    rw [if_pos ⟨hp, by omega⟩]
  have e3 : ∀ p, mid ≤ p → p < e → rot f s m e p = f (p - (e - m)) := fun p hp hq => by
    unfold rot
    rw [if_neg (by omega), if_pos ⟨by omega, hq⟩]
  have e4 : ∀ p, e ≤ p → rot f s m e p = f p := fun p hp => by
    unfold rot
    rw [if_neg (by omega), if_neg (by omega)]
  have le : ∀ {x y : Nat}, (x = y ∨ lt (f x) (f y) = true) → ∀ {z}, lt (f y) z = true → lt (f x) z = true := fun h z hz => by
    rcases h with rfl | h
    · exact hz
    · exact lt_trans h hz
  have ge : ∀ {x y : Nat}, (x = y ∨ lt (f x) (f y) = true) → ∀ {z}, lt z (f x) = true → lt z (f y) = true := fun h z hz => by
    rcases h with rfl | h
    · exact hz
    · exact lt_trans hz h
  refine ⟨fun p q hp hpq hq => ?_, fun p q hp hpq hq => ?_, fun p q hp hpq hq => ?_, fun p q hp hpq hq => ?_, fun x y hx1 hx2 hy1 hy2 => ?_, fun p hp => ?_, fun p hp hq => ?_⟩
  · rw [e1 p (by omega), e1 q (by omega)]
    exact h1 p q hp hpq (by omega)
  · rw [e2 p hp (by omega), e2 q (by omega) hq]
    exact h2 _ _ (by omega) (by omega) (by omega)
  · rw [e3 p hp (by omega), e3 q (by omega) hq]
    exact h1 _ _ (by omega) (by omega) (by omega)
  · rw [e4 p hp, e4 q (by omega)]
    exact h2 p q (by omega) hpq hq
  · by_cases hxs : x < s
    · rw [e1 x hxs]
      by_cases hye : y < e
      · rw [e3 y hy1 hye]
        exact h1 _ _ hx1 (by omega) (by omega)
      · rw [e4 y (by omega)]
        have hx : x = s - 1 ∨ lt (f x) (f (s - 1)) = true := by
          by_cases h : x = s - 1
          · exact .inl h
          · exact .inr (h1 _ _ hx1 (by omega) (by omega))
        have hy : e = y ∨ lt (f e) (f y) = true := by
          by_cases h : e = y
          · exact .inl h
          · exact .inr (h2 _ _ hme (by omega) hy2)
        exact le hx (ge hy (hl (by omega) (by omega)))
    · rw [e2 x (by omega) hx2]
      by_cases hye : y < e
      · rw [e3 y hy1 hye]
        have hx : x - s + m = e - 1 ∨ lt (f (x - s + m)) (f (e - 1)) = true := by
          by_cases h : x - s + m = e - 1
          · exact .inl h
          · exact .inr (h2 _ _ (by omega) (by omega) (by omega))
        have hy : s = y - (e - m) ∨ lt (f s) (f (y - (e - m))) = true := by
          by_cases h : s = y - (e - m)
          · exact .inl h
          · exact .inr (h1 _ _ has (by omega) (by omega))
        exact le hx (ge hy (hr (by omega) (by omega)))
      · rw [e4 y (by omega)]
        exact h2 _ _ (by omega) (by omega) hy2
  · unfold rot
    rw [if_neg (by omega), if_neg (by omega)]
  · by_cases h : p < s
    · exact ⟨p, hp, hq, e1 p h⟩
    · by_cases h' : p < mid
      · exact ⟨p - s + m, by omega, by omega, e2 p (by omega) h'⟩
      · by_cases h'' : p < e
        · exact ⟨p - (e - m), by omega, by omega, e3 p (by omega) h''⟩
        · exact ⟨p, hp, hq, e4 p (by omega)⟩
/-- Both halves merged: all is. -/
theorem mrg_halves {f g h1 h2 : Nat → Id} {a mid b : Nat} (ham : a ≤ mid) (hmb : mid ≤ b) (hout : ∀ p, p < a ∨ b ≤ p → g p = f p) (hins : ∀ p, a ≤ p → p < b → ∃ q, a ≤ q ∧ q < b ∧ g p = f q)
    (hlr : ∀ x y, a ≤ x → x < mid → mid ≤ y → y < b → lt (g x) (g y) = true) (m1 : Mrg g h1 a mid) (m2 : Mrg h1 h2 mid b) : Mrg f h2 a b := by
  have hL : ∀ p, a ≤ p → p < mid → ∃ q, a ≤ q ∧ q < mid ∧ h2 p = g q := fun p hp hq => by
    rw [m2.out p (.inl hq)]
    exact m1.ins p hp hq
  have hR : ∀ p, mid ≤ p → p < b → ∃ q, mid ≤ q ∧ q < b ∧ h2 p = g q := fun p hp hq => by
    obtain ⟨q, h3, h4, h5⟩ := m2.ins p hp hq
    exact ⟨q, h3, h4, h5.trans (m1.out q (.inr h3))⟩
  refine ⟨fun p hp => ?_, fun p hp hq => ?_, fun p q hp hpq hq => ?_⟩
  · rw [m2.out p (by omega), m1.out p (by omega), hout p hp]
  · by_cases h : p < mid
    · obtain ⟨q, h3, h4, h5⟩ := hL p hp h
      obtain ⟨r, h6, h7, h8⟩ := hins q h3 (by omega)
      exact ⟨r, h6, h7, h5.trans h8⟩
    · obtain ⟨q, h3, h4, h5⟩ := hR p (by omega) hq
      obtain ⟨r, h6, h7, h8⟩ := hins q (by omega) h4
      exact ⟨r, h6, h7, h5.trans h8⟩
  · by_cases h : q < mid
    · rw [m2.out p (by omega), m2.out q (by omega)]
      exact m1.seg p q hp hpq h
    · by_cases h' : p < mid
      · obtain ⟨x, h3, h4, h5⟩ := hL p hp h'
        obtain ⟨y, h6, h7, h8⟩ := hR q (by omega) hq
        rw [h5, h8]
        exact hlr x y h3 h4 h6 h7
      · exact m2.seg p q (by omega) hpq hq
theorem Same'.trans {a b c : List Mo} (h : Same' a b) (k : Same' b c) : Same' a c := ⟨k.len.trans h.len, fun o => (k.mem o).trans (h.mem o), k.dis⟩
end Op
end Go.Proofs.YtifkedhbelflkaaDoor
