/- Marks, plainly: what winners are, whatever the order of the marks; and a mark that stands above all others. -/
import Derived.Test.YtmgipnckojopcaaGreatPbMkL
namespace Go.Proofs.YtmgipnckojopcaaGreat
namespace Mk
open Go Go.RowKit Sx Tl Sq Val
theorem clean_fit {x : Vl} (h : x.Fit) : (cleanV x).Fit := by
  refine ⟨h.k0, h.k1, h.n0, h.n1, ?_, h.s1⟩
  show nbits x.f < _
  unfold nbits
  split
  · decide
  · exact h.f1
theorem srt_look {α : Type} : ∀ {l : List (ByteArray × α)} {q : ByteArray × α}, Srt l → q ∈ l → Sx.look l q.1 = some q.2
  | p :: l, q, hs, hq => by
    rw [look_cons]
    rcases List.mem_cons.1 hq with rfl | hq
    · rw [if_pos rfl]
    · have h1 := (List.pairwise_cons.1 hs).1 q hq
      rw [if_neg (fun e => by rw [e, kl_self] at h1; omega)]
      exact srt_look (List.pairwise_cons.1 hs).2 hq
theorem step_some {k : ByteArray} {x : Option Mo} {a o : Mo} (h : wstep k x a = some o) : (o = a ∧ a.key = k) ∨ x = some o := by
  unfold wstep at h
  by_cases hk : a.key = k
  · rw [if_pos hk] at h
    cases x with
    | none => exact .inl ⟨(Option.some.inj h).symm, hk⟩
    | some y =>
      dsimp only at h
      by_cases hm : mless y a = true
      · rw [if_pos hm] at h
        exact .inl ⟨(Option.some.inj h).symm, hk⟩
      · rw [if_neg hm] at h
        exact .inr h
  · rw [if_neg hk] at h
    exact .inr h
theorem fold_some {k : ByteArray} : ∀ {l : List Mo} {x : Option Mo} {o : Mo}, l.foldl (wstep k) x = some o → (o ∈ l ∧ o.key = k) ∨ x = some o
  | [], _, _, h => .inr h
  | a :: l, x, o, h => by
    rw [List.foldl_cons] at h
    rcases fold_some h with ⟨h1, h2⟩ | h1
    · exact .inl ⟨List.mem_cons_of_mem _ h1, h2⟩
    · rcases step_some h1 with ⟨rfl, h2⟩ | h1
      · exact .inl ⟨List.mem_cons_self, h2⟩
      · exact .inr h1
theorem top_some {k : ByteArray} {l : List Mo} {o : Mo} (h : top k l = some o) : o ∈ l ∧ o.key = k := by
  rcases fold_some h with h | h
  · exact h
  · cases h
theorem fold_none {k : ByteArray} : ∀ {l : List Mo} {x : Option Mo}, l.foldl (wstep k) x = none → x = none ∧ ∀ o ∈ l, o.key ≠ k
  | [], _, h => ⟨h, fun _ h => by cases h⟩
  | a :: l, x, h => by
    rw [List.foldl_cons] at h
    obtain ⟨h1, h2⟩ := fold_none h
    unfold wstep at h1
    by_cases hk : a.key = k
    · rw [if_pos hk] at h1
      cases x with
      | none => cases h1
      | some y =>
        dsimp only at h1
        split at h1 <;> cases h1
    · rw [if_neg hk] at h1
      exact ⟨h1, fun o ho => by rcases List.mem_cons.1 ho with rfl | ho; exact hk; exact h2 o ho⟩
theorem mless_iff {a b : Mo} : mless a b = true ↔ a.st < b.st ∨ (a.st = b.st ∧ (a.id.1 < b.id.1 ∨ (a.id.1 = b.id.1 ∧ a.id.2 < b.id.2))) := by
  unfold mless
  rw [Bool.or_eq_true, Bool.and_eq_true, decide_eq_true_eq, decide_eq_true_eq, Fo.lt_iff]
theorem mless_no {a b : Mo} : mless a b = false ↔ ¬ (a.st < b.st ∨ (a.st = b.st ∧ (a.id.1 < b.id.1 ∨ (a.id.1 = b.id.1 ∧ a.id.2 < b.id.2)))) := by
  rw [← mless_iff]
  simp
theorem mless_tie {a b : Mo} (h : mless a b = false) (k : mless b a = false) : a.id = b.id := by
  rw [mless_no] at h k
  exact Prod.ext (by omega) (by omega)
/-- No mark of its key is above a winner. -/
theorem fold_max {k : ByteArray} : ∀ {l : List Mo} {x : Option Mo} {o : Mo}, l.foldl (wstep k) x = some o → (∀ p ∈ l, p.key = k → mless o p = false) ∧ ∀ y, x = some y → mless o y = false
  | [], x, o, h => ⟨fun _ h => (by cases h), fun y e => by
    rw [List.foldl_nil, e] at h
    cases h
    rw [mless_no]
    omega⟩
  | a :: l, x, o, h => by
    rw [List.foldl_cons] at h
    obtain ⟨h1, h2⟩ := fold_max h
    unfold wstep at h2
    by_cases hk : a.key = k
    · rw [if_pos hk] at h2
      cases x with
      | none =>
        have h3 := h2 a rfl
        exact ⟨fun p hp e => by rcases List.mem_cons.1 hp with rfl | hp; exact h3; exact h1 p hp e, fun y e => (by cases e)⟩
      | some y =>
        dsimp only at h2
        cases hm : mless y a with
        | true =>
          rw [hm, if_pos rfl] at h2
          have h3 := h2 a rfl
          refine ⟨fun p hp e => by rcases List.mem_cons.1 hp with rfl | hp; exact h3; exact h1 p hp e, fun z e => ?_⟩
          cases e
          rw [mless_no] at *
          rw [mless_iff] at hm
          omega
        | false =>
          rw [hm, if_neg (by simp)] at h2
          have h3 := h2 y rfl
          refine ⟨fun p hp e => ?_, fun z e => (by cases e; exact h3)⟩
          rcases List.mem_cons.1 hp with rfl | hp
          · rw [mless_no] at *
            omega
          · exact h1 p hp e
    · rw [if_neg hk] at h2
      exact ⟨fun p hp e => by rcases List.mem_cons.1 hp with rfl | hp; exact absurd e hk; exact h1 p hp e, h2⟩
theorem top_max {k : ByteArray} {l : List Mo} {o : Mo} (h : top k l = some o) : ∀ p ∈ l, p.key = k → mless o p = false := (fold_max h).1
/-- Marks that have one id are alike in what they tell. -/
def Tied (l : List Mo) : Prop := ∀ a ∈ l, ∀ b ∈ l, a.id = b.id → cmpV a.v b.v = 0 ∧ a.v.k = b.v.k
theorem top_alike {k : ByteArray} {l m : List Mo} (hm : ∀ o, o ∈ l ↔ o ∈ m) (ht : Tied l) : orel (fun x y : Mo => cmpV x.v y.v = 0 ∧ x.v.k = y.v.k) (top k l) (top k m) := by
  cases h1 : top k l with
  | none =>
    cases h2 : top k m with
    | none => trivial
    | some p =>
      obtain ⟨hp, he⟩ := top_some h2
      exact absurd he ((fold_none h1).2 p ((hm p).2 hp))
  | some o =>
    obtain ⟨ho, he⟩ := top_some h1
    cases h2 : top k m with
    | none => exact absurd he ((fold_none h2).2 o ((hm o).1 ho))
    | some p =>
      obtain ⟨hp, hq⟩ := top_some h2
      exact ht o ho p ((hm p).2 hp) (mless_tie (top_max h1 p ((hm p).2 hp) hq) (top_max h2 o ((hm o).1 ho) he))
/-- In whichever order marks stand, and however often, places show the same. -/
theorem order_same (t : Fo) (place : Int) {l m : List Mo} (hm : ∀ o, o ∈ l ↔ o ∈ m) (ht : Tied (l.filter fun o => decide (o.k = 3))) : sameL (toldL (bestL t place l)) (toldL (bestL t place m)) = true := by
  refine same_of_look (srt_best t place l) (srt_best t place m) fun k => ?_
  rw [look_tb, look_tb]
  have h := top_alike (k := k) (l := l.filter (onV t place)) (m := m.filter (onV t place)) (fun o => by rw [List.mem_filter, List.mem_filter, hm]) (fun a ha b hb e => by
    have on3 : ∀ x, x ∈ l.filter (onV t place) → x ∈ l.filter fun o => decide (o.k = 3) := fun x hx => by
      rw [List.mem_filter] at hx ⊢
      refine ⟨hx.1, ?_⟩
      have := hx.2
      unfold onV at this
      exact (Bool.and_eq_true _ _ ▸ this).1
    exact ht a (on3 a ha) b (on3 b hb) e)
  cases h1 : top k (l.filter (onV t place)) with
  | none =>
    rw [h1] at h
    cases h2 : top k (m.filter (onV t place)) with
    | none => trivial
    | some p => rw [h2] at h; exact h.elim
  | some o =>
    rw [h1] at h
    cases h2 : top k (m.filter (onV t place)) with
    | none => rw [h2] at h; exact h.elim
    | some p =>
      rw [h2] at h
      obtain ⟨h3, h4⟩ := h
      show orel _ (t1 o) (t1 p)
      unfold t1
      rw [← h4]
      by_cases h0 : o.v.k = 0
      · rw [if_pos h0, if_pos h0]
        trivial
      · rw [if_neg h0, if_neg h0]
        show cmpV _ _ = 0
        rw [cmpV_clean, cmpV_clean', h3]
/-- What is told is of the marks. -/
theorem told_mem {t : Fo} {place : Int} {l : List Mo} {q : Mk} (h : q ∈ toldL (bestL t place l)) : ∃ o ∈ l, o.key = q.1 ∧ o.v.k ≠ 0 ∧ q.2 = cleanV o.v := by
  have h1 := srt_look (srt_best t place l) h
  rw [look_tb] at h1
  cases h2 : top q.1 (l.filter (onV t place)) with
  | none => rw [h2] at h1; cases h1
  | some o =>
    rw [h2] at h1
    obtain ⟨h3, h4⟩ := top_some h2
    change t1 o = _ at h1
    unfold t1 at h1
    by_cases h0 : o.v.k = 0
    · rw [if_pos h0] at h1
      cases h1
    · rw [if_neg h0] at h1
      exact ⟨o, (List.mem_filter.1 h3).1, h4, h0, (Option.some.inj h1).symm⟩
/-! ### A mark above all others -/
end Mk
end Go.Proofs.YtmgipnckojopcaaGreat
