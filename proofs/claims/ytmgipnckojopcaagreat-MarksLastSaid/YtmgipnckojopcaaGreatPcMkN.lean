/- Marks, plainly: what winners are, whatever the order of the marks; and a mark that stands above all others. -/
import Derived.Test.YtmgipnckojopcaaGreatPcMkL
namespace Go.Proofs.YtmgipnckojopcaaGreat
namespace Mk
open Go Go.RowKit Sx Tl Sq Val
theorem clean_fit {x : Vl} (h : x.Fit) : (cleanV x).Fit := by
  refine ⟨h.k0, h.k1, h.n0, h.n1, ?_, h.s1⟩
  show nbits x.f < _
  unfold nbits
  split
  · decide
  · exact h.f1
theorem srt_look {α : Type} : ∀ {l : List (ByteArray × α)} {q : ByteArray × α}, Srt l → q ∈ l → Sx.look l q.1 = some q.2
  | p :: l, q, hs, hq => by
    rw [look_cons]
    rcases List.mem_cons.1 hq with rfl | hq
    · rw [if_pos rfl]
    · have h1 := (List.pairwise_cons.1 hs).1 q hq
      rw [if_neg (fun e => by rw [e, kl_self] at h1; omega)]
      exact srt_look (List.pairwise_cons.1 hs).2 hq
theorem step_some {k : ByteArray} {x : Option Mo} {a o : Mo} (h : wstep k x a = some o) : (o = a ∧ a.key = k) ∨ x = some o := by
  unfold wstep at h
  by_cases hk : a.key = k
  · rw [if_pos hk] at h
    cases x with
    | none => exact .inl ⟨(Option.some.inj h).symm, hk⟩
    | some y =>
      dsimp only at h
      by_cases hm : mless y a = true
      · rw [if_pos hm] at h
        exact .inl ⟨(Option.some.inj h).symm, hk⟩
      · rw [if_neg hm] at h
        exact .inr h
  · rw [if_neg hk] at h
    exact .inr h
theorem fold_some {k : ByteArray} : ∀ {l : List Mo} {x : Option Mo} {o : Mo}, l.foldl (wstep k) x = some o → (o ∈ l ∧ o.key = k) ∨ x = some o
  | [], _, _, h => .inr h
  | a :: l, x, o, h => by
    rw [List.foldl_cons] at h
    rcases fold_some h with ⟨h1, h2⟩ | h1
    · exact .inl ⟨List.mem_cons_of_mem _ h1, h2⟩
    · rcases step_some h1 with ⟨rfl, h2⟩ | h1
      · exact .inl ⟨List.mem_cons_self, h2⟩
      · exact .inr h1
theorem top_some {k : ByteArray} {l : List Mo} {o : Mo} (h : top k l = some o) : o ∈ l ∧ o.key = k := by
  rcases fold_some h with h | h
  · exact h
  · cases h
theorem mless_iff {a b : Mo} : mless a b = true ↔ a.st < b.st ∨ (a.st = b.st ∧ (a.id.1 < b.id.1 ∨ (a.id.1 = b.id.1 ∧ a.id.2 < b.id.2))) := by
  unfold mless
  rw [Bool.or_eq_true, Bool.and_eq_true, decide_eq_true_eq, decide_eq_true_eq, Fo.lt_iff]
/-- What is told is of the marks. -/
theorem told_mem {t : Fo} {place : Int} {l : List Mo} {q : Mk} (h : q ∈ toldL (bestL t place l)) : ∃ o ∈ l, o.key = q.1 ∧ o.v.k ≠ 0 ∧ q.2 = cleanV o.v := by
  have h1 := srt_look (srt_best t place l) h
  rw [look_tb] at h1
  cases h2 : top q.1 (l.filter (onV t place)) with
  | none => rw [h2] at h1; cases h1
  | some o =>
    rw [h2] at h1
    obtain ⟨h3, h4⟩ := top_some h2
    change t1 o = _ at h1
    unfold t1 at h1
    by_cases h0 : o.v.k = 0
    · rw [if_pos h0] at h1
      cases h1
    · rw [if_neg h0] at h1
      exact ⟨o, (List.mem_filter.1 h3).1, h4, h0, (Option.some.inj h1).symm⟩
/-! ### A mark above all others -/
/-- What the law expects of a place: k1 out, or v put in its place. -/
def wantL (inn : Bool) (k1 : ByteArray) (v : Vl) : Bool → List Mk → List Mk
  | done, [] => if done then [] else [(k1, v)]
  | done, m :: r => if inn = true ∧ m.1 = k1 then wantL inn k1 v done r
    else if done = false ∧ cmpS k1 m.1 < 0 then (k1, v) :: m :: wantL inn k1 v true r else m :: wantL inn k1 v done r
theorem want_out (k1 : ByteArray) (v : Vl) : ∀ l : List Mk, wantL false k1 v true l = l
  | [] => rfl
  | m :: r => by
    unfold wantL
    rw [if_neg (by simp), if_neg (by simp), want_out k1 v r]
theorem want_mem {inn : Bool} {k1 : ByteArray} {v : Vl} : ∀ {l : List Mk} {done : Bool} {q : Mk}, q ∈ wantL inn k1 v done l → q ∈ l ∨ q = (k1, v)
  | [], done, q, h => by
    unfold wantL at h
    split at h
    · cases h
    · exact .inr (List.mem_singleton.1 h)
  | m :: r, done, q, h => by
    unfold wantL at h
    split at h
    · rcases want_mem h with h | h
      · exact .inl (List.mem_cons_of_mem _ h)
      · exact .inr h
    · split at h
      · rcases List.mem_cons.1 h with h | h
        · exact .inr h
        · rcases List.mem_cons.1 h with rfl | h
          · exact .inl List.mem_cons_self
          · rcases want_mem h with h | h
            · exact .inl (List.mem_cons_of_mem _ h)
            · exact .inr h
      · rcases List.mem_cons.1 h with rfl | h
        · exact .inl List.mem_cons_self
        · rcases want_mem h with h | h
          · exact .inl (List.mem_cons_of_mem _ h)
          · exact .inr h
/-- Within: the row without k1, or with v at it. -/
theorem want_in (k1 : ByteArray) (v : Vl) : ∀ {l : List Mk} {done : Bool}, Srt l →
    Srt (wantL true k1 v done l) ∧ (done = true → ∀ q ∈ wantL true k1 v done l, q ∈ l) ∧ ∀ k, Sx.look (wantL true k1 v done l) k = if k = k1 then (if done then none else some v) else Sx.look l k
  | [], done, _ => by
    unfold wantL
    cases done with
    | true =>
      refine ⟨List.Pairwise.nil, fun _ _ h => h, fun k => ?_⟩
      rw [if_pos rfl, if_pos rfl]
      split <;> rfl
    | false =>
      refine ⟨List.pairwise_cons.2 ⟨fun _ h => (by cases h), List.Pairwise.nil⟩, fun h => (by cases h), fun k => ?_⟩
      rw [if_neg (by simp), look_cons]
      dsimp only
      by_cases e : k = k1
      · rw [if_pos e.symm, if_pos e, if_neg (by simp)]
      · rw [if_neg (Ne.symm e), if_neg e]
  | m :: r, done, hs => by
    obtain ⟨hm, hr⟩ := List.pairwise_cons.1 hs
    unfold wantL
    by_cases h1 : m.1 = k1
    · rw [if_pos ⟨rfl, h1⟩]
      obtain ⟨i1, i2, i3⟩ := want_in k1 v (done := done) hr
      refine ⟨i1, fun h q hq => List.mem_cons_of_mem _ (i2 h q hq), fun k => ?_⟩
      rw [i3, look_cons]
      by_cases e : k = k1
      · rw [if_pos e, if_pos e]
      · rw [if_neg e, if_neg e, if_neg (fun e' => e (e'.symm.trans h1))]
    · rw [if_neg (fun h => h1 h.2)]
      by_cases h2 : done = false ∧ cmpS k1 m.1 < 0
      · rw [if_pos h2]
        obtain ⟨rfl, h2⟩ := h2
        obtain ⟨i1, i2, i3⟩ := want_in k1 v (done := true) hr
        have hb : ∀ q ∈ wantL true k1 v true r, cmpS m.1 q.1 < 0 := fun q hq => hm q (i2 rfl q hq)
        refine ⟨List.pairwise_cons.2 ⟨fun q hq => ?_, List.pairwise_cons.2 ⟨hb, i1⟩⟩, fun h => (by cases h), fun k => ?_⟩
        · rcases List.mem_cons.1 hq with rfl | hq
          · exact h2
          · exact kl_trans h2 (hb q hq)
        · rw [look_cons, look_cons, look_cons, i3]
          dsimp only
          by_cases e : k = k1
          · rw [if_pos e.symm, if_pos e, if_neg (by simp)]
          · rw [if_neg (Ne.symm e), if_neg e, if_neg e]
      · rw [if_neg h2]
        obtain ⟨i1, i2, i3⟩ := want_in k1 v (done := done) hr
        refine ⟨List.pairwise_cons.2 ⟨fun q hq => ?_, i1⟩, fun h q hq => ?_, fun k => ?_⟩
        · rcases want_mem hq with hq | rfl
          · exact hm q hq
          · cases done with
            | true => exact hm _ (i2 rfl _ hq)
            | false =>
              have h3 : ¬ cmpS k1 m.1 < 0 := fun h => h2 ⟨rfl, h⟩
              have h4 := cmpS_neg k1 m.1
              have h5 : cmpS m.1 k1 ≠ 0 := fun h => h1 (kl_eq.1 h)
              show cmpS m.1 k1 < 0
              omega
        · rcases List.mem_cons.1 hq with rfl | hq
          · exact List.mem_cons_self
          · exact List.mem_cons_of_mem _ (i2 h q hq)
        · rw [look_cons, look_cons, i3]
          by_cases e : k = k1
          · rw [if_neg (fun e' => h1 (e'.trans e)), if_pos e, if_pos e]
          · rw [if_neg e, if_neg e]
theorem wstep_ne {k : ByteArray} {x : Option Mo} {o : Mo} (h : o.key ≠ k) : wstep k x o = x := if_neg h
theorem wstep_last {k : ByteArray} {x : Option Mo} {o : Mo} (hk : o.key = k) (h : ∀ y, x = some y → mless y o = true) : wstep k x o = some o := by
  unfold wstep
  rw [if_pos hk]
  cases x with
  | none => rfl
  | some y =>
    dsimp only
    rw [h y rfl, if_pos rfl]
/-- A mark with the greatest stamp: what a place shows behind it. -/
theorem last_same (t : Fo) (place : Int) (l : List Mo) (o : Mo) (hst : ∀ p ∈ l, p.st < o.st) (inn wipe : Bool) (hon : onV t place o = inn) (hw : wipe = decide (o.v.k = 0)) :
    sameL (toldL (bestL t place (l ++ [o]))) (wantL inn o.key o.v (wipe || !inn) (toldL (bestL t place l))) = true := by
  have hs := srt_best t place l
  cases inn with
  | false =>
    rw [Bool.not_false, Bool.or_true, want_out]
    have : bestL t place (l ++ [o]) = bestL t place l := by rw [best_snoc, hon]; rfl
    rw [this]
    exact sameL_self _
  | true =>
    rw [Bool.not_true, Bool.or_false]
    obtain ⟨i1, _, i3⟩ := want_in o.key o.v (done := wipe) hs
    refine same_of_look (srt_best t place _) i1 fun k => ?_
    rw [i3, look_tb, look_tb]
    have hf : (l ++ [o]).filter (onV t place) = l.filter (onV t place) ++ [o] := by rw [List.filter_append, List.filter_cons_of_pos hon, List.filter_nil]
    have ht : top k (l.filter (onV t place) ++ [o]) = wstep k (top k (l.filter (onV t place))) o := by unfold top; rw [List.foldl_append]; rfl
    rw [hf, ht]
    by_cases e : k = o.key
    · rw [wstep_last e.symm fun y h => mless_iff.2 (.inl (hst y (List.mem_filter.1 (top_some h).1).1)), if_pos e]
      show orel _ (t1 o) _
      unfold t1
      by_cases h0 : o.v.k = 0
      · rw [if_pos h0, hw, decide_eq_true h0, if_pos rfl]
        trivial
      · rw [if_neg h0, hw, decide_eq_false h0, if_neg (by simp)]
        show cmpV _ _ = 0
        rw [cmpV_clean, cmpV_self]
    · rw [wstep_ne (Ne.symm e), if_neg e]
      cases (top k (l.filter (onV t place))).bind t1 with
      | none => trivial
      | some x => exact cmpV_self x
end Mk
end Go.Proofs.YtmgipnckojopcaaGreat
