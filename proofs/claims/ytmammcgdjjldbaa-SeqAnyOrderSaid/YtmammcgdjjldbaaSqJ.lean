/- How a sequence in memory turns. -/
import Derived.Test.YtmammcgdjjldbaaSqG
namespace Go.Proofs.Ytmammcgdjjldbaa
set_option maxRecDepth 100000
namespace Sq
open Go Go.RowKit Sx Tl
variable {E : Env} {ord rt N D : List Id} {ρ : Id → Rec} {w : World}
def fset (ρ : Id → Rec) (k : Id) (r : Rec) : Id → Rec := fun j => if j = k then r else ρ j
theorem fset_same (ρ : Id → Rec) (k : Id) (r : Rec) : fset ρ k r k = r := if_pos rfl
theorem fset_ne {ρ : Id → Rec} {k j : Id} {r : Rec} (h : j ≠ k) : fset ρ k r j = ρ j := if_neg h
/-- The same places; tags of new blocks may be new. -/
structure Ex (E : Env) (w : World) (E' : Env) (w' : World) : Prop where
  p : E'.p = E.p
  ma : E'.ma = E.ma
  mt : E'.mt = E.mt
  ad : E'.ad = E.ad
  old : ∀ g, g < w.heap.size → E'.tg g = E.tg g
  far : ∀ g, w'.heap.size ≤ g → E'.tg g = E.tg g
theorem Ex.refl (E : Env) (w w' : World) : Ex E w E w' := ⟨rfl, rfl, rfl, rfl, fun _ _ => rfl, fun _ _ => rfl⟩
theorem Ex.trans {E' E'' : Env} {w' w'' : World} (h : Ex E w E' w') (k : Ex E' w' E'' w'') (h1 : w.heap.size ≤ w'.heap.size) (h2 : w'.heap.size ≤ w''.heap.size) : Ex E w E'' w'' :=
  ⟨k.p.trans h.p, k.ma.trans h.ma, k.mt.trans h.mt, k.ad.trans h.ad, fun g hg => (k.old g (Nat.lt_of_lt_of_le hg h1)).trans (h.old g hg), fun g hg => (k.far g hg).trans (h.far g (Nat.le_trans h2 hg))⟩
theorem Ex.pv {E' : Env} {w' : World} (h : Ex E w E' w') : pv E' = pv E := funext fun k => by unfold Sq.pv; rw [h.ad]
theorem Ex.parv {E' : Env} {w' : World} (h : Ex E w E' w') : parv E' = parv E := funext fun k => by
  cases k with
  | none => rfl
  | some k => exact congrFun h.pv k
theorem Ex.ncs {E' : Env} {w' : World} (h : Ex E w E' w') : ncs E' = ncs E := funext fun r => funext fun a => funext fun b => by unfold Sq.ncs; rw [h.parv]
theorem Ex.row {E' : Env} {A w' : World} {τ : Tag} {v : Value} {l : List Id} (h : Ex E w E' w') (hr : RowAt A E τ v l) (hA : A.heap.size ≤ w.heap.size) : RowAt A E' τ v l :=
  ⟨by rw [h.pv]; exact hr.own, fun g hg => (h.old g (Nat.lt_of_lt_of_le (own_ltg hr.own hg) hA)).trans (hr.tag g hg)⟩
theorem Ex.node {E' : Env} {A w' : World} {k : Id} {r : Rec} (h : Ex E w E' w') (hn : NodeAt A E k r) (hA : A.heap.size ≤ w.heap.size) : NodeAt A E' k r := by
  obtain ⟨ht, sl, sr, hb, hl, hr⟩ := hn
  exact ⟨by rw [h.ad, h.old _ (Nat.lt_of_lt_of_le hb.lt hA)]; exact ht, sl, sr, by rw [h.ad, h.ncs]; exact hb, h.row hl hA, h.row hr hA⟩
theorem Core.ext {E' : Env} {A w' : World} (h : Core A E ord rt N D ρ) (x : Ex E w E' w') (hA : A.heap.size ≤ w.heap.size) : Core A E' ord rt N D ρ := by
  obtain ⟨so, sr, fresh, m, h1, h2, h3, h4, h5⟩ := h.seq
  obtain ⟨es, h6, h7⟩ := h.all
  refine ⟨?_, ?_, ?_, ⟨so, sr, fresh, m, ?_, x.row h2 hA, x.row h3 hA, ?_, h5⟩, ⟨es, ?_, ?_⟩, fun k hk => x.node (h.nodes k hk) hA⟩
  · rw [x.p, x.old _ (Nat.lt_of_lt_of_le h1.lt hA)]; exact h.tp
  · rw [x.ma, x.old _ (Nat.lt_of_lt_of_le h6.lt hA)]; exact h.tma
  · rw [x.mt, x.old _ (Nat.lt_of_lt_of_le h4.lt hA)]; exact h.tmt
  · rw [x.p, x.ma, x.mt]; exact h1
  · rw [x.mt]; exact h4
  · rw [x.ma]; exact h6
  · rw [x.ad]; exact h7
/-- One node has turned. -/
theorem Core.updNode {S : Tag → Prop} {w' : World} {k : Id} {r : Rec} (h : Core w E ord rt N D ρ) (hk : Kept E S w w') (hs : ∀ t, S t → t = .other ∨ t = .node k ∨ t = .left k ∨ t = .right k) (hn : NodeAt w' E k r) : Core w' E ord rt N D (fset ρ k r) := by
  have no : ∀ t, t ≠ .other → t ≠ .node k → t ≠ .left k → t ≠ .right k → ¬ S t := fun t h1 h2 h3 h4 hS => by
    rcases hs t hS with h | h | h | h
    · exact h1 h
    · exact h2 h
    · exact h3 h
    · exact h4 h
  obtain ⟨so, sr, fresh, m, h1, h2, h3, h4, h5⟩ := h.seq
  obtain ⟨es, h6, h7⟩ := h.all
  refine ⟨h.tp, h.tma, h.tmt, ⟨so, sr, fresh, m, hk.blk h1 (by rw [h.tp]; exact no _ (by simp) (by simp) (by simp) (by simp)), hk.row h2 (no _ (by simp) (by simp) (by simp) (by simp)), hk.row h3 (no _ (by simp) (by simp) (by simp) (by simp)), hk.map h4 (by rw [h.tmt]; exact no _ (by simp) (by simp) (by simp) (by simp)), h5⟩,
    ⟨es, hk.map h6 (by rw [h.tma]; exact no _ (by simp) (by simp) (by simp) (by simp)), h7⟩, fun j hj => ?_⟩
  by_cases e : j = k
  · subst e
    rw [fset_same]
    exact hn
  · rw [fset_ne e]
    exact hk.node (h.nodes j hj) (no _ (by simp) (by simpa using e) (by simp) (by simp)) (no _ (by simp) (by simp) (by simpa using e) (by simp)) (no _ (by simp) (by simp) (by simp) (by simpa using e))
/-- The sequence's own struct has turned, and its rows. -/
theorem Core.updSeq {S : Tag → Prop} {w' : World} {ord' rt' : List Id} (h : Core w E ord rt N D ρ) (hk : Kept E S w w') (hs : ∀ t, S t → t = .other ∨ t = .seq ∨ t = .order ∨ t = .root ∨ t = .at')
    (hn : ∃ so sr fresh m, Blk w' E.p [.map (some E.ma), so, sr, .map (some E.mt), .bool fresh] 71 ∧ RowAt w' E .order so ord' ∧ RowAt w' E .root sr rt' ∧ SxG.MpAt idv w' E.mt RI m ∧ (fresh = true → ∀ k ∈ ord', SxG.look m k = some (ord'.idxOf k))) : Core w' E ord' rt' N D ρ := by
  have no : ∀ t, t ≠ .other → t ≠ .seq → t ≠ .order → t ≠ .root → t ≠ .at' → ¬ S t := fun t h1 h2 h3 h4 h5 hS => by
    rcases hs t hS with h | h | h | h | h
    · exact h1 h
    · exact h2 h
    · exact h3 h
    · exact h4 h
    · exact h5 h
  obtain ⟨es, h6, h7⟩ := h.all
  exact ⟨h.tp, h.tma, h.tmt, hn, ⟨es, hk.map h6 (by rw [h.tma]; exact no _ (by simp) (by simp) (by simp) (by simp) (by simp)), h7⟩, fun j hj => hk.node (h.nodes j hj) (no _ (by simp) (by simp) (by simp) (by simp) (by simp)) (no _ (by simp) (by simp) (by simp) (by simp) (by simp)) (no _ (by simp) (by simp) (by simp) (by simp) (by simp))⟩
/-- A unit is there now: by its id its node is told. -/
theorem Core.updAll {S : Tag → Prop} {w' : World} {D' : List Id} (h : Core w E ord rt N D ρ) (hk : Kept E S w w') (hs : ∀ t, S t → t = .other ∨ t = .all) (hn : ∃ es, SxG.MpAt idv w' E.ma RP es ∧ ∀ k, SxG.look es k = if k ∈ D' then some (E.ad k) else none) : Core w' E ord rt N D' ρ := by
  have no : ∀ t, t ≠ .other → t ≠ .all → ¬ S t := fun t h1 h2 hS => by
    rcases hs t hS with h | h
    · exact h1 h
    · exact h2 h
  obtain ⟨so, sr, fresh, m, h1, h2, h3, h4, h5⟩ := h.seq
  exact ⟨h.tp, h.tma, h.tmt, ⟨so, sr, fresh, m, hk.blk h1 (by rw [h.tp]; exact no _ (by simp) (by simp)), hk.row h2 (no _ (by simp) (by simp)), hk.row h3 (no _ (by simp) (by simp)), hk.map h4 (by rw [h.tmt]; exact no _ (by simp) (by simp)), h5⟩, hn,
    fun j hj => hk.node (h.nodes j hj) (no _ (by simp) (by simp)) (no _ (by simp) (by simp)) (no _ (by simp) (by simp))⟩
/-- All that is told of is there. -/
structure Clo (ord rt N D : List Id) (ρ : Id → Rec) : Prop where
  ord : ∀ j ∈ ord, j ∈ N
  rt : ∀ j ∈ rt, j ∈ N
  D : ∀ j ∈ D, j ∈ N
  L : ∀ k ∈ N, ∀ j ∈ (ρ k).L, j ∈ N
  R : ∀ k ∈ N, ∀ j ∈ (ρ k).R, j ∈ N
  par : ∀ k ∈ N, ∀ j, (ρ k).par = some j → j ∈ N
def Env.node (E : Env) (x : Id) (b : Nat) : Env := { E with ad := fun j => if j = x then b else E.ad j, tg := fun g => if g = b then .node x else E.tg g }
theorem map_pvx {x : Id} {b : Nat} {l : List Id} (h : x ∉ l) : l.map (pv (E.node x b)) = l.map (pv E) := List.map_congr_left fun j hj => by
  have : j ≠ x := fun e => h (e ▸ hj)
  show Value.pointer (some ⟨if j = x then b else E.ad j, 0, none⟩) = _
  rw [if_neg this]
  rfl
theorem row_x {x : Id} {b : Nat} {τ : Tag} {v : Value} {l : List Id} (h : RowAt w E τ v l) (hx : x ∉ l) (hb : w.heap.size ≤ b) : RowAt w (E.node x b) τ v l :=
  ⟨by rw [map_pvx hx]; exact h.own, fun g hg => by
    have := own_ltg h.own hg
    show (if g = b then Tag.node x else E.tg g) = τ
    rw [if_neg (by omega)]
    exact h.tag g hg⟩
/-- A node that nothing tells of yet. -/
theorem Core.newNode {x : Id} {r : Rec} {sl sr : Value} {A : World} (h : Core w E ord rt N D ρ) (hc : Clo ord rt N D ρ) (hx : x ∉ N) (hA : Below w.heap.size w A) {b : Nat} (hlb : w.heap.size ≤ b) (hb : Blk A b (ncs (E.node x b) r sl sr) 78) (hl : RowAt A (E.node x b) (.left x) sl r.L) (hr : RowAt A (E.node x b) (.right x) sr r.R) :
    Core A (E.node x b) ord rt (x :: N) D (fset ρ x r) := by
  have tgo : ∀ g, g < w.heap.size → (E.node x b).tg g = E.tg g := fun g hg => if_neg (by omega)
  have ado : ∀ j, j ∈ N → (E.node x b).ad j = E.ad j := fun j hj => if_neg (fun e : j = x => hx (e ▸ hj))
  obtain ⟨so, sr', fresh, m, h1, h2, h3, h4, h5⟩ := h.seq
  obtain ⟨es, h6, h7⟩ := h.all
  have hk := Kept.of (E := E) (S := fun _ => False) hA
  have kk : ∀ j ∈ N, NodeAt A (E.node x b) j (ρ j) := fun j hj => by
    obtain ⟨t1, sl1, sr1, t2, t3, t4⟩ := h.nodes j hj
    refine ⟨?_, sl1, sr1, ?_, ?_, ?_⟩
    · rw [ado j hj, tgo _ t2.lt]
      exact t1
    · rw [ado j hj]
      have : ncs (E.node x b) (ρ j) sl1 sr1 = ncs E (ρ j) sl1 sr1 := by
        have hp : parv (E.node x b) (ρ j).par = parv E (ρ j).par := by
          cases e : (ρ j).par with
          | none => rfl
          | some q =>
            show Value.pointer (some ⟨(E.node x b).ad q, 0, none⟩) = _
            rw [ado q (hc.par j hj q e)]
            rfl
        unfold ncs
        rw [hp]
      rw [this]
      exact hk.blk t2 (fun h => h)
    · have := row_x (b := b) t3 (fun hm => hx (hc.L j hj x hm)) hlb
      exact ⟨own_kept this.own fun g hg => hA.block g (own_ltg t3.own hg), this.tag⟩
    · have := row_x (b := b) t4 (fun hm => hx (hc.R j hj x hm)) hlb
      exact ⟨own_kept this.own fun g hg => hA.block g (own_ltg t4.own hg), this.tag⟩
  refine ⟨(tgo _ h1.lt).trans h.tp, (tgo _ h6.lt).trans h.tma, (tgo _ h4.lt).trans h.tmt, ⟨so, sr', fresh, m, hk.blk h1 (fun h => h), ?_, ?_, hk.map h4 (fun h => h), h5⟩, ⟨es, hk.map h6 (fun h => h), fun k => ?_⟩, fun j hj => ?_⟩
  · have := row_x (b := b) h2 (fun hm => hx (hc.ord x hm)) hlb
    exact ⟨own_kept this.own fun g hg => hA.block g (own_ltg h2.own hg), this.tag⟩
  · have := row_x (b := b) h3 (fun hm => hx (hc.rt x hm)) hlb
    exact ⟨own_kept this.own fun g hg => hA.block g (own_ltg h3.own hg), this.tag⟩
  · rw [h7]
    by_cases e : k ∈ D
    · rw [if_pos e, if_pos e, ado k (hc.D k e)]
    · rw [if_neg e, if_neg e]
  · by_cases e : j = x
    · subst e
      rw [fset_same]
      exact ⟨by show (if (if j = j then b else E.ad j) = b then Tag.node j else _) = _; rw [if_pos rfl, if_pos rfl], sl, sr, by show Blk A (if j = j then b else E.ad j) _ _; rw [if_pos rfl]; exact hb, hl, hr⟩
    · rw [fset_ne e]
      exact kk j ((List.mem_cons.1 hj).resolve_left e)
end Sq
end Go.Proofs.Ytmammcgdjjldbaa
