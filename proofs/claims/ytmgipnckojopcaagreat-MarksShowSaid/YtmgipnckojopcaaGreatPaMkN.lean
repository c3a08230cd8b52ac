/- Marks, plainly: what winners are, whatever the order of the marks; and a mark that stands above all others. -/
import Derived.Test.YtmgipnckojopcaaGreatPaMkL
namespace Go.Proofs.YtmgipnckojopcaaGreat
namespace Mk
open Go Go.RowKit Sx Tl Sq Val
theorem clean_fit {x : Vl} (h : x.Fit) : (cleanV x).Fit := by
  refine ⟨h.k0, h.k1, h.n0, h.n1, ?_, h.s1⟩
  show nbits x.f < _
  unfold nbits
  split
  · decide
  · exact h.f1
theorem srt_look {α : Type} : ∀ {l : List (ByteArray × α)} {q : ByteArray × α}, Srt l → q ∈ l → Sx.look l q.1 = some q.2
  | p :: l, q, hs, hq => by
    rw [look_cons]
    rcases List.mem_cons.1 hq with rfl | hq
    · rw [if_pos rfl]
    · have h1 := (List.pairwise_cons.1 hs).1 q hq
      rw [if_neg (fun e => by rw [e, kl_self] at h1; omega)]
      exact srt_look (List.pairwise_cons.1 hs).2 hq
theorem step_some {k : ByteArray} {x : Option Mo} {a o : Mo} (h : wstep k x a = some o) : (o = a ∧ a.key = k) ∨ x = some o := by
  unfold wstep at h
  by_cases hk : a.key = k
  · rw [if_pos hk] at h
    cases x with
    | none => exact .inl ⟨(Option.some.inj h).symm, hk⟩
    | some y =>
      dsimp only at h
      by_cases hm : mless y a = true
      · rw [if_pos hm] at h
        exact .inl ⟨(Option.some.inj h).symm, hk⟩
      · rw [if_neg hm] at h
        exact .inr h
  · rw [if_neg hk] at h
    exact .inr h
theorem fold_some {k : ByteArray} : ∀ {l : List Mo} {x : Option Mo} {o : Mo}, l.foldl (wstep k) x = some o → (o ∈ l ∧ o.key = k) ∨ x = some o
  | [], _, _, h => .inr h
  | a :: l, x, o, h => by
    rw [List.foldl_cons] at h
    rcases fold_some h with ⟨h1, h2⟩ | h1
    · exact .inl ⟨List.mem_cons_of_mem _ h1, h2⟩
    · rcases step_some h1 with ⟨rfl, h2⟩ | h1
      · exact .inl ⟨List.mem_cons_self, h2⟩
      · exact .inr h1
theorem top_some {k : ByteArray} {l : List Mo} {o : Mo} (h : top k l = some o) : o ∈ l ∧ o.key = k := by
  rcases fold_some h with h | h
  · exact h
  · cases h
/-- What is told is of the marks. -/
theorem told_mem {t : Fo} {place : Int} {l : List Mo} {q : Mk} (h : q ∈ toldL (bestL t place l)) : ∃ o ∈ l, o.key = q.1 ∧ o.v.k ≠ 0 ∧ q.2 = cleanV o.v := by
  have h1 := srt_look (srt_best t place l) h
  rw [look_tb] at h1
  cases h2 : top q.1 (l.filter (onV t place)) with
  | none => rw [h2] at h1; cases h1
  | some o =>
    rw [h2] at h1
    obtain ⟨h3, h4⟩ := top_some h2
    change t1 o = _ at h1
    unfold t1 at h1
    by_cases h0 : o.v.k = 0
    · rw [if_pos h0] at h1
      cases h1
    · rw [if_neg h0] at h1
      exact ⟨o, (List.mem_filter.1 h3).1, h4, h0, (Option.some.inj h1).symm⟩
theorem fold_rins_mem : ∀ {l b : List Mo} {o : Mo}, o ∈ l.foldl rins b → o ∈ l ∨ o ∈ b
  | [], _, _, h => .inr h
  | a :: l, b, o, h => by
    rw [List.foldl_cons] at h
    rcases fold_rins_mem h with h | h
    · exact .inl (List.mem_cons_of_mem _ h)
    · rcases rins_mem h with rfl | h
      · exact .inl List.mem_cons_self
      · exact .inr h
theorem rtell_mem {t : Fo} {place : Int} {l : List Mo} {q : Mk} (h : q ∈ rtell ((l.filter (onV t place)).foldl rins [])) : ∃ o ∈ l, q = (o.key, o.v) := by
  unfold rtell at h
  obtain ⟨o, ho, rfl⟩ := List.mem_map.1 h
  rcases fold_rins_mem (List.mem_filter.1 ho).1 with h | h
  · exact ⟨o, (List.mem_filter.1 h).1, rfl⟩
  · cases h
/-! ### A mark above all others -/
end Mk
end Go.Proofs.YtmgipnckojopcaaGreat
