/- Copy: one that is being made. -/
import Derived.Test.YtmammcgdjjldbaaSqCpA
namespace Go.Proofs.Ytmammcgdjjldbaa
set_option maxRecDepth 100000
namespace Sq
open Go Go.RowKit Sx Tl
/-- A sequence whose places are not told yet. -/
structure Half (w : World) (E : Env) (N rt : List Id) (ρ : Id → Rec) : Prop where
  tp : E.tg E.p = .seq
  tma : E.tg E.ma = .all
  tmt : E.tg E.mt = .at'
  seq : ∃ so sr fresh m, Blk w E.p [.map (some E.ma), so, sr, .map (some E.mt), .bool fresh] 71 ∧ RowAt w E .order so N ∧ RowAt w E .root sr rt ∧ SxG.MpAt idv w E.mt RI m
  all : ∃ es, SxG.MpAt idv w E.ma RP es ∧ ∀ k, SxG.look es k = if k ∈ N then some (E.ad k) else none
  nodes : ∀ k ∈ N, NodeAt w E k (ρ k)
variable {E : Env} {w : World} {N rt : List Id} {ρ : Id → Rec}
theorem Half.of (h : Core w E N rt N N ρ) : Half w E N rt ρ := by
  obtain ⟨so, sr, fresh, m, h1, h2, h3, h4, _⟩ := h.seq
  exact ⟨h.tp, h.tma, h.tmt, ⟨so, sr, fresh, m, h1, h2, h3, h4⟩, h.all, h.nodes⟩
theorem Half.kept {S : Tag → Prop} {w' : World} (h : Half w E N rt ρ) (hk : Kept E S w w') (hs : ∀ t, S t → t = .other) : Half w' E N rt ρ := by
  have no : ∀ t, t ≠ .other → ¬ S t := fun t ht hS => ht (hs t hS)
  obtain ⟨so, sr, fresh, m, h1, h2, h3, h4⟩ := h.seq
  obtain ⟨es, h6, h7⟩ := h.all
  exact ⟨h.tp, h.tma, h.tmt, ⟨so, sr, fresh, m, hk.blk h1 (by rw [h.tp]; exact no _ (by simp)), hk.row h2 (no _ (by simp)), hk.row h3 (no _ (by simp)), hk.map h4 (by rw [h.tmt]; exact no _ (by simp))⟩,
    ⟨es, hk.map h6 (by rw [h.tma]; exact no _ (by simp)), h7⟩, fun k hkN => hk.node (h.nodes k hkN) (no _ (by simp)) (no _ (by simp)) (no _ (by simp))⟩
theorem Half.below {w' : World} (h : Half w E N rt ρ) (hb : Below w.heap.size w w') : Half w' E N rt ρ := h.kept (S := fun _ => False) (.of hb) fun _ h => h.elim
theorem Half.ext {E' : Env} {A w' : World} (h : Half A E N rt ρ) (x : Ex E w E' w') (hA : A.heap.size ≤ w.heap.size) : Half A E' N rt ρ := by
  obtain ⟨so, sr, fresh, m, h1, h2, h3, h4⟩ := h.seq
  obtain ⟨es, h6, h7⟩ := h.all
  refine ⟨?_, ?_, ?_, ⟨so, sr, fresh, m, ?_, x.row h2 hA, x.row h3 hA, ?_⟩, ⟨es, ?_, ?_⟩, fun k hk => x.node (h.nodes k hk) hA⟩
  · rw [x.p, x.old _ (Nat.lt_of_lt_of_le h1.lt hA)]; exact h.tp
  · rw [x.ma, x.old _ (Nat.lt_of_lt_of_le h6.lt hA)]; exact h.tma
  · rw [x.mt, x.old _ (Nat.lt_of_lt_of_le h4.lt hA)]; exact h.tmt
  · rw [x.p, x.ma, x.mt]; exact h1
  · rw [x.mt]; exact h4
  · rw [x.ma]; exact h6
  · rw [x.ad]; exact h7
theorem Half.updNode {S : Tag → Prop} {w' : World} {k : Id} {r : Rec} (h : Half w E N rt ρ) (hk : Kept E S w w') (hs : ∀ t, S t → t = .other ∨ t = .node k ∨ t = .left k ∨ t = .right k) (hn : NodeAt w' E k r) : Half w' E N rt (fset ρ k r) := by
  have no : ∀ t, t ≠ .other → t ≠ .node k → t ≠ .left k → t ≠ .right k → ¬ S t := fun t h1 h2 h3 h4 hS => by
    rcases hs t hS with h | h | h | h
    · exact h1 h
    · exact h2 h
    · exact h3 h
    · exact h4 h
  obtain ⟨so, sr, fresh, m, h1, h2, h3, h4⟩ := h.seq
  obtain ⟨es, h6, h7⟩ := h.all
  refine ⟨h.tp, h.tma, h.tmt, ⟨so, sr, fresh, m, hk.blk h1 (by rw [h.tp]; exact no _ (by simp) (by simp) (by simp) (by simp)), hk.row h2 (no _ (by simp) (by simp) (by simp) (by simp)), hk.row h3 (no _ (by simp) (by simp) (by simp) (by simp)), hk.map h4 (by rw [h.tmt]; exact no _ (by simp) (by simp) (by simp) (by simp))⟩,
    ⟨es, hk.map h6 (by rw [h.tma]; exact no _ (by simp) (by simp) (by simp) (by simp)), h7⟩, fun j hj => ?_⟩
  by_cases e : j = k
  · subst e
    rw [fset_same]
    exact hn
  · rw [fset_ne e]
    exact hk.node (h.nodes j hj) (no _ (by simp) (by simpa using e) (by simp) (by simp)) (no _ (by simp) (by simp) (by simpa using e) (by simp)) (no _ (by simp) (by simp) (by simp) (by simpa using e))
theorem Half.congr {σ : Id → Rec} (h : Half w E N rt ρ) (he : ∀ k ∈ N, σ k = ρ k) : Half w E N rt σ := ⟨h.tp, h.tma, h.tmt, h.seq, h.all, fun k hk => by rw [he k hk]; exact h.nodes k hk⟩
theorem Half.ad_inj (h : Half w E N rt ρ) {j k : Id} (hj : j ∈ N) (hk : k ∈ N) (e : E.ad j = E.ad k) : j = k := by
  have h1 := (h.nodes j hj).tag
  have h2 := (h.nodes k hk).tag
  rw [e, h2] at h1
  injection h1 with h1
  exact h1.symm
/-- A unit as the first round lays it: below none, above none. -/
def bare (ρ : Id → Rec) : Id → Rec := fun k => ⟨(ρ k).u, none, [], [], (ρ k).n⟩
theorem own_nilE {B e : Nat} : w.ownsRow B e 1 (.slice none 0 0) 0 [] := ⟨rfl, .inl ⟨rfl, rfl⟩⟩
theorem Half.step {S : Tag → Prop} {A A6 : World} {x : Id} {X Y : Nat} {so so' sr : Value} {fresh : Bool} {m : List (Id × Nat)} (h : Half A E N [] (bare ρ)) (hfar : ∀ g, A.heap.size ≤ g → E.tg g = .other) (hk : Kept E S A A6) (hs : ∀ t, S t → t = .other ∨ t = .all ∨ t = .seq ∨ t = .order)
    (hX1 : A.heap.size ≤ X) (hX : Blk A6 X (ncs E (bare ρ x) (.slice none 0 0) (.slice none 0 0)) 78) (hx : x ∉ N)
    (hall : ∃ es, SxG.MpAt idv A6 E.ma RP es ∧ ∀ k, SxG.look es k = if k = x then some X else if k ∈ N then some (E.ad k) else none)
    (hso : RowAt A E .order so N) (hsr : RowAt A E .root sr []) (hm : SxG.MpAt idv A E.mt RI m) (hS : Blk A6 E.p [.map (some E.ma), so', sr, .map (some E.mt), .bool fresh] 71)
    (ho : A6.ownsRow 0 73 1 so' (N.length + 1) (N.map (pv E) ++ [ptr X])) (hat : so'.ownBlock = so.ownBlock ∨ so'.ownBlock = some Y) (hY : A.heap.size ≤ Y) (hXY : Y ≠ X) :
    ∃ E', Half A6 E' (N ++ [x]) [] (bare ρ) ∧ E'.p = E.p ∧ (∀ g, g < A.heap.size → E'.tg g = E.tg g) ∧ (∀ g, A6.heap.size ≤ g → E'.tg g = .other) ∧ (∀ k ∈ N, E'.ad k = E.ad k) ∧ E'.ad x = X := by
  have no : ∀ t, t ≠ .other → t ≠ .all → t ≠ .seq → t ≠ .order → ¬ S t := fun t h1 h2 h3 h4 hS => by
    rcases hs t hS with h | h | h | h
    · exact h1 h
    · exact h2 h
    · exact h3 h
    · exact h4 h
  obtain ⟨E', hE'⟩ : ∃ E' : Env, E' = { E with ad := fun j => if j = x then X else E.ad j, tg := fun g => if g = X then .node x else if so'.ownBlock = some g ∧ A.heap.size ≤ g then .order else E.tg g } := ⟨_, rfl⟩
  have ep : E'.p = E.p := by rw [hE']
  have ema : E'.ma = E.ma := by rw [hE']
  have emt : E'.mt = E.mt := by rw [hE']
  have ead : ∀ k ∈ N, E'.ad k = E.ad k := fun k hk => by rw [hE']; exact if_neg (fun e : k = x => hx (e ▸ hk))
  have eax : E'.ad x = X := by rw [hE']; exact if_pos rfl
  have etg : ∀ g, g < A.heap.size → E'.tg g = E.tg g := fun g hg => by
    rw [hE']
    show (if g = X then Tag.node x else if so'.ownBlock = some g ∧ A.heap.size ≤ g then .order else E.tg g) = _
    rw [if_neg (by omega), if_neg (fun h => by omega)]
  have etX : E'.tg X = .node x := by rw [hE']; exact if_pos rfl
  have etf : ∀ g, A6.heap.size ≤ g → E'.tg g = .other := fun g hg => by
    have h1 := hX.lt
    rw [hE']
    show (if g = X then Tag.node x else if so'.ownBlock = some g ∧ A.heap.size ≤ g then .order else E.tg g) = _
    rw [if_neg (by omega), if_neg (fun h => by have := own_ltg ho h.1; omega)]
    exact hfar g (Nat.le_trans hk.size hg)
  have eto : ∀ g, so'.ownBlock = some g → E'.tg g = .order := fun g hg => by
    rcases Nat.lt_or_ge g A.heap.size with h1 | h1
    · rw [etg g h1]
      rcases hat with e | e
      · exact hso.tag g (e ▸ hg)
      · rw [e] at hg
        cases hg
        omega
    · have h2 : g ≠ X := by
        rcases hat with e | e
        · have := own_ltg hso.own (e ▸ hg)
          omega
        · rw [e] at hg
          cases hg
          exact hXY
      rw [hE']
      show (if g = X then Tag.node x else if so'.ownBlock = some g ∧ A.heap.size ≤ g then .order else E.tg g) = _
      rw [if_neg h2, if_pos ⟨hg, h1⟩]
  clear hE'
  obtain ⟨_, _, _, _, q1, _, _, q4⟩ := h.seq
  obtain ⟨_, q6, _⟩ := h.all
  have hpvN : ∀ l : List Id, (∀ j ∈ l, j ∈ N) → l.map (pv E') = l.map (pv E) := fun l hl => List.map_congr_left fun j hj => by unfold pv; rw [ead j (hl j hj)]
  have hnc : ∀ k a b, ncs E' (bare ρ k) a b = ncs E (bare ρ k) a b := fun k a b => rfl
  have hrow : ∀ {τ : Tag} {v : Value}, RowAt A E τ v [] → ¬ S τ → RowAt A6 E' τ v [] := fun hr hn => by
    have h1 := hk.row hr hn
    exact ⟨h1.own, fun g hg => (etg g (own_ltg hr.own hg)).trans (hr.tag g hg)⟩
  refine ⟨E', ⟨?_, ?_, ?_, ⟨so', sr, fresh, m, ?_, ⟨?_, eto⟩, hrow hsr (no _ (by simp) (by simp) (by simp) (by simp)), ?_⟩, ?_, fun k hkN => ?_⟩, ep, etg, etf, ead, eax⟩
  · rw [ep, etg _ q1.lt]; exact h.tp
  · rw [ema, etg _ q6.lt]; exact h.tma
  · rw [emt, etg _ q4.lt]; exact h.tmt
  · rw [ep, ema, emt]; exact hS
  · rw [List.map_append, hpvN N (fun _ h => h), List.length_append, List.map_singleton]
    have : pv E' x = ptr X := by unfold pv ptr; rw [eax]
    rw [this]
    exact ho
  · rw [emt]
    exact hk.map hm (by rw [h.tmt]; exact no _ (by simp) (by simp) (by simp) (by simp))
  · obtain ⟨es, h1, h2⟩ := hall
    refine ⟨es, by rw [ema]; exact h1, fun k => ?_⟩
    rw [h2]
    by_cases e : k = x
    · subst e
      rw [if_pos rfl, if_pos (by simp), eax]
    · by_cases e2 : k ∈ N
      · rw [if_neg e, if_pos e2, if_pos (by simp [e2]), ead k e2]
      · rw [if_neg e, if_neg e2, if_neg (by simp [e, e2])]
  · rcases List.mem_append.1 hkN with hkN | hkN
    · obtain ⟨t1, sl, sr', t2, t3, t4⟩ := h.nodes k hkN
      refine ⟨by rw [ead k hkN, etg _ t2.lt]; exact t1, sl, sr', ?_, hrow t3 (no _ (by simp) (by simp) (by simp) (by simp)), hrow t4 (no _ (by simp) (by simp) (by simp) (by simp))⟩
      rw [ead k hkN, hnc]
      exact hk.blk t2 (by rw [t1]; exact no _ (by simp) (by simp) (by simp) (by simp))
    · rw [List.mem_singleton.1 hkN]
      exact ⟨by rw [eax]; exact etX, .slice none 0 0, .slice none 0 0, by rw [eax, hnc]; exact hX, ⟨own_nilE, fun g hg => by cases hg⟩, ⟨own_nilE, fun g hg => by cases hg⟩⟩
theorem own_base {w : World} {v : Value} {B e n nn : Nat} {xs : List Value} (h : w.ownsRow B e n v nn xs) {g : Nat} (hg : v.ownBlock = some g) : B ≤ g := by
  rcases h.2 with ⟨rfl, _⟩ | ⟨g', cap, cur, rfl, hb, _⟩
  · cases hg
  · cases hg
    exact hb
/-- A row's block is for this. -/
def Env.tagv (E : Env) (v : Value) (τ : Tag) : Env := { E with tg := fun g => if v.ownBlock = some g then τ else E.tg g }
theorem Ex.tagv {A B : World} {v : Value} {b e nn : Nat} {xs : List Value} (τ : Tag) (h : B.ownsRow b e 1 v nn xs) (hb : A.heap.size ≤ b) : Ex E A (E.tagv v τ) B :=
  ⟨rfl, rfl, rfl, rfl, fun g hg => if_neg (fun e => by have := own_base h e; omega), fun g hg => if_neg (fun e => by have := own_ltg h e; omega)⟩
end Sq
end Go.Proofs.Ytmammcgdjjldbaa
