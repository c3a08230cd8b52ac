/- Plain: values in order (the part of Value's laws that Marks wants). -/
import Derived.Test.YtglfoofclicfpaaDoorJVal6ToVal7
namespace Go.Proofs.YtglfoofclicfpaaDoor
set_option maxRecDepth 100000
namespace Val
open Go Go.RowKit Sx Fl
def Tr (p q r : Int) : Prop := p ≤ 0 → q ≤ 0 → r ≤ 0 ∧ (r = 0 → p = 0 ∧ q = 0)
theorem cmpI_neg (a b : Int) : cmpI b a = -cmpI a b := by
  unfold cmpI
  split <;> split <;> (try split) <;> omega
theorem cmpI_tr (a b c : Int) : Tr (cmpI a b) (cmpI b c) (cmpI a c) := by
  intro h1 h2
  unfold cmpI at *
  split at h1 <;> split at h2 <;> split <;> (try split at h1) <;> (try split at h2) <;> (try split) <;> omega
theorem cmpB_neg : ∀ a b : List UInt8, Lib.compareBytes b a = -Lib.compareBytes a b
  | [], [] => rfl
  | [], _ :: _ => rfl
  | _ :: _, [] => rfl
  | x :: a, y :: b => by
    have ih := cmpB_neg a b
    unfold Lib.compareBytes
    by_cases h : x < y
    · have h' : ¬ y < x := fun e => UInt8.lt_irrefl x (UInt8.lt_trans h e)
      simp [h, h']
    · by_cases h' : y < x
      · simp [h, h']
      · simp [h, h', ih]
theorem cmpB_tr : ∀ a b c : List UInt8, Tr (Lib.compareBytes a b) (Lib.compareBytes b c) (Lib.compareBytes a c)
  | [], [], [] => fun _ _ => ⟨by decide, fun _ => ⟨rfl, rfl⟩⟩
  | [], [], _ :: _ => fun _ _ => ⟨by simp [Lib.compareBytes], fun h => by simp [Lib.compareBytes] at h⟩
  | [], _ :: _, [] => fun _ h => by simp [Lib.compareBytes] at h
  | [], _ :: _, _ :: _ => fun _ _ => ⟨by simp [Lib.compareBytes], fun h => by simp [Lib.compareBytes] at h⟩
  | _ :: _, [], _ => fun h _ => by simp [Lib.compareBytes] at h
  | _ :: _, _ :: _, [] => fun _ h => by simp [Lib.compareBytes] at h
  | x :: a, y :: b, z :: c => by
    have ih := cmpB_tr a b c
    intro h1 h2
    unfold Lib.compareBytes at h1 h2 ⊢
    by_cases e1 : x < y
    · by_cases e2 : y < z
      · have e3 := UInt8.lt_trans e1 e2
        simp [e3]
      · by_cases e2' : z < y
        · simp [e2, e2'] at h2
        · have : y = z := UInt8.le_antisymm (UInt8.not_lt.1 e2') (UInt8.not_lt.1 e2)
          subst this
          simp [e1]
    · by_cases e1' : y < x
      · simp [e1, e1'] at h1
      · have : x = y := UInt8.le_antisymm (UInt8.not_lt.1 e1') (UInt8.not_lt.1 e1)
        subst this
        by_cases e2 : x < z
        · simp [e2]
        · by_cases e2' : z < x
          · simp [e2, e2'] at h2
          · simp only [e1, e2, e2', if_false] at h1 h2 ⊢
            exact ih h1 h2
theorem cmpV_eq (x y : Vl) : cmpV x y = if cmpI x.k y.k ≠ 0 then cmpI x.k y.k else if cmpI x.n y.n ≠ 0 then cmpI x.n y.n else if cmpI (K x.f) (K y.f) ≠ 0 then cmpI (K x.f) (K y.f) else cmpS x.s y.s := by
  unfold cmpV
  simp only [orL]
  split <;> (try rfl)
  split <;> (try rfl)
  split <;> (try rfl)
  split <;> (try rfl)
  rename_i h
  omega
theorem or0 {p p' : Int} (h : p = 0) : (if p ≠ 0 then p else p') = p' := if_neg (by omega)
theorem or1 {p p' : Int} (h : ¬ p = 0) : (if p ≠ 0 then p else p') = p := if_pos h
theorem tr_or {p q r p' q' r' : Int} (h : Tr p q r) (h' : Tr p' q' r') : Tr (if p ≠ 0 then p else p') (if q ≠ 0 then q else q') (if r ≠ 0 then r else r') := by
  intro h1 h2
  by_cases hp : p = 0 <;> by_cases hq : q = 0
  · rw [or0 (p' := p') hp] at h1 ⊢
    rw [or0 (p' := q') hq] at h2 ⊢
    have a := h (by omega) (by omega)
    have b := h' h1 h2
    by_cases hr : r = 0
    · rw [or0 (p' := r') hr]; exact b
    · rw [or1 (p' := r') hr]; exact ⟨a.1, fun e => absurd e hr⟩
  · rw [or0 (p' := p') hp] at h1 ⊢
    rw [or1 (p' := q') hq] at h2 ⊢
    have a := h (by omega) h2
    have hr : ¬ r = 0 := fun e => hq (a.2 e).2
    rw [or1 (p' := r') hr]
    exact ⟨a.1, fun e => absurd e hr⟩
  · rw [or1 (p' := p') hp] at h1 ⊢
    rw [or0 (p' := q') hq] at h2 ⊢
    have a := h h1 (by omega)
    have hr : ¬ r = 0 := fun e => hp (a.2 e).1
    rw [or1 (p' := r') hr]
    exact ⟨a.1, fun e => absurd e hr⟩
  · rw [or1 (p' := p') hp] at h1 ⊢
    rw [or1 (p' := q') hq] at h2 ⊢
    have a := h h1 h2
    have hr : ¬ r = 0 := fun e => hp (a.2 e).1
    rw [or1 (p' := r') hr]
    exact ⟨a.1, fun e => absurd e hr⟩
theorem cmpV_tr (x y z : Vl) : Tr (cmpV x y) (cmpV y z) (cmpV x z) := by
  rw [cmpV_eq, cmpV_eq, cmpV_eq]
  exact tr_or (cmpI_tr _ _ _) (tr_or (cmpI_tr _ _ _) (tr_or (cmpI_tr _ _ _) (cmpB_tr _ _ _)))
theorem cmpS_neg (s t : ByteArray) : cmpS t s = -cmpS s t := cmpB_neg _ _
theorem cmpV_neg (x y : Vl) : cmpV y x = -cmpV x y := by
  rw [cmpV_eq, cmpV_eq, cmpI_neg x.k y.k, cmpI_neg x.n y.n, cmpI_neg (K x.f) (K y.f), cmpS_neg x.s y.s]
  split <;> split <;> (try omega)
theorem cmpV_self (x : Vl) : cmpV x x = 0 := by
  have := cmpV_neg x x
  omega
theorem cmpV_range (x y : Vl) : -1 ≤ cmpV x y ∧ cmpV x y ≤ 1 := by
  have h : ∀ a b, -1 ≤ cmpI a b ∧ cmpI a b ≤ 1 := fun a b => by
    unfold cmpI
    split <;> (try split) <;> omega
  have hs := cmpS_cases x.s y.s
  rw [cmpV_eq]
  have h1 := h x.k y.k
  have h2 := h x.n y.n
  have h3 := h (K x.f) (K y.f)
  split
  · exact h1
  split
  · exact h2
  split
  · exact h3
  omega
end Val
end Go.Proofs.YtglfoofclicfpaaDoor
