/- A sequence in memory: who owns which block; what stays. -/
import Derived.Test.YtmammcgdjjldbaaSqI
namespace Go.Proofs.Ytmammcgdjjldbaa
set_option maxRecDepth 100000
namespace Sq
open Go Go.RowKit Sx Tl
/-- What a block is for. -/
inductive Tag where
  | other | seq | all | at' | order | root
  | node (k : Id)
  | left (k : Id)
  | right (k : Id)
deriving DecidableEq
/-- Where all lies: the sequence, its maps, each unit's node; what each block is for. -/
structure Env where
  p : Nat
  ma : Nat
  mt : Nat
  ad : Id → Nat
  tg : Nat → Tag
def pv (E : Env) (k : Id) : Value := .pointer (some ⟨E.ad k, 0, none⟩)
def parv (E : Env) : Option Id → Value
  | none => .pointer none
  | some k => pv E k
def ncs (E : Env) (r : Rec) (sl sr : Value) : List Value := [.int .u64 (r.u.id.1 : Int), .int .u64 (r.u.id.2 : Int), .int .u64 (r.u.l.1 : Int), .int .u64 (r.u.l.2 : Int), .int .u64 (r.u.r.1 : Int), .int .u64 (r.u.r.2 : Int), parv E r.par, sl, sr, .int .i64 (r.n : Int)]
def ucs (u : Un) : List Value := [.int .u64 (u.id.1 : Int), .int .u64 (u.id.2 : Int), .int .u64 (u.l.1 : Int), .int .u64 (u.l.2 : Int), .int .u64 (u.r.1 : Int), .int .u64 (u.r.2 : Int)]
/-- A row of pointers to units' nodes, for this. -/
structure RowAt (w : World) (E : Env) (τ : Tag) (v : Value) (l : List Id) : Prop where
  own : w.ownsRow 0 73 1 v l.length (l.map (pv E))
  tag : ∀ g, v.ownBlock = some g → E.tg g = τ
structure NodeAt (w : World) (E : Env) (k : Id) (r : Rec) : Prop where
  tag : E.tg (E.ad k) = .node k
  ex : ∃ sl sr, Blk w (E.ad k) (ncs E r sl sr) 78 ∧ RowAt w E (.left k) sl r.L ∧ RowAt w E (.right k) sr r.R
def RP (v : Value) (b : Nat) : Prop := v = .pointer (some ⟨b, 0, none⟩)
def RI (v : Value) (n : Nat) : Prop := v = .int .i64 (n : Int)
/-- The sequence's own struct, and its rows. -/
structure Core (w : World) (E : Env) (ord rt N D : List Id) (ρ : Id → Rec) : Prop where
  tp : E.tg E.p = .seq
  tma : E.tg E.ma = .all
  tmt : E.tg E.mt = .at'
  seq : ∃ so sr fresh m, Blk w E.p [.map (some E.ma), so, sr, .map (some E.mt), .bool fresh] 71 ∧ RowAt w E .order so ord ∧ RowAt w E .root sr rt ∧ SxG.MpAt idv w E.mt RI m ∧ (fresh = true → ∀ k ∈ ord, SxG.look m k = some (ord.idxOf k))
  all : ∃ es, SxG.MpAt idv w E.ma RP es ∧ ∀ k, SxG.look es k = if k ∈ D then some (E.ad k) else none
  nodes : ∀ k ∈ N, NodeAt w E k (ρ k)
/-- All blocks that are not for these have stayed; there may be new ones. -/
structure Kept (E : Env) (S : Tag → Prop) (w w' : World) : Prop where
  os : w'.os = w.os
  tape : w'.tape = w.tape
  output : w'.output = w.output
  size : w.heap.size ≤ w'.heap.size
  block : ∀ g, g < w.heap.size → ¬ S (E.tg g) → w'.heap[g]? = w.heap[g]?
theorem Kept.refl (E : Env) (S : Tag → Prop) (w : World) : Kept E S w w := ⟨rfl, rfl, rfl, Nat.le_refl _, fun _ _ _ => rfl⟩
theorem Kept.trans {E : Env} {S : Tag → Prop} {x y z : World} (h : Kept E S x y) (k : Kept E S y z) : Kept E S x z :=
  ⟨k.os.trans h.os, k.tape.trans h.tape, k.output.trans h.output, Nat.le_trans h.size k.size, fun g h1 h2 => (k.block g (Nat.lt_of_lt_of_le h1 h.size) h2).trans (h.block g h1 h2)⟩
theorem Kept.mono {E : Env} {S T : Tag → Prop} {x y : World} (h : Kept E S x y) (hs : ∀ t, S t → T t) : Kept E T x y := ⟨h.os, h.tape, h.output, h.size, fun g h1 h2 => h.block g h1 fun h => h2 (hs _ h)⟩
theorem Kept.of {E : Env} {S : Tag → Prop} {w w' : World} (h : Below w.heap.size w w') : Kept E S w w' := ⟨h.os, h.tape, h.output, h.size, fun g h1 _ => h.block g h1⟩
theorem Kept.ofChg {E : Env} {S : Tag → Prop} {bs : List Nat} {w w' : World} (h : Chg bs w w') (hb : ∀ b ∈ bs, S (E.tg b)) : Kept E S w w' := ⟨h.os, h.tape, h.output, h.size, fun g h1 h2 => h.block g h1 fun hm => h2 (hb g hm)⟩
theorem Kept.grown {E : Env} {S : Tag → Prop} {v : Value} {w w' : World} (h : w.grownBy w' v.ownBlock) (hb : ∀ g, v.ownBlock = some g → S (E.tg g)) : Kept E S w w' := ⟨h.os, h.tape, h.output, h.size, fun g h1 h2 => h.block g h1 fun hm => h2 (hb g hm.symm)⟩
theorem Kept.put {E : Env} {S : Tag → Prop} {w : World} (b : Nat) (hb : S (E.tg b)) (o : Obj) : Kept E S w (w.putObj b o) := .ofChg ((Chg.refl [b] w).put (.inl (by simp)) o) (fun g hg => by rw [List.mem_singleton.1 hg]; exact hb)
theorem own_ltg {w : World} {v : Value} {B e n nn : Nat} {xs : List Value} (h : w.ownsRow B e n v nn xs) {g : Nat} (hg : v.ownBlock = some g) : g < w.heap.size := by
  rcases h.2 with ⟨rfl, _⟩ | ⟨g', cap, cur, rfl, _, hc, _⟩
  · cases hg
  · cases hg
    exact lt_of_some hc
theorem own_kept {w w' : World} {v : Value} {B e n nn : Nat} {xs : List Value} (h : w.ownsRow B e n v nn xs) (hk : ∀ g, v.ownBlock = some g → w'.heap[g]? = w.heap[g]?) : w'.ownsRow B e n v nn xs := by
  refine ⟨h.1, ?_⟩
  rcases h.2 with ⟨rfl, hn⟩ | ⟨g, cap, cur, rfl, hb, hc, h1, h2, h3, h4⟩
  · exact .inl ⟨rfl, hn⟩
  · exact .inr ⟨g, cap, cur, rfl, hb, (hk g rfl).trans hc, h1, h2, h3, h4⟩
theorem Kept.row {E : Env} {S : Tag → Prop} {w w' : World} {τ : Tag} {v : Value} {l : List Id} (h : Kept E S w w') (hr : RowAt w E τ v l) (hs : ¬ S τ) : RowAt w' E τ v l :=
  ⟨own_kept hr.own fun g hg => h.block g (own_ltg hr.own hg) (by rw [hr.tag g hg]; exact hs), hr.tag⟩
theorem Kept.blk {E : Env} {S : Tag → Prop} {w w' : World} {b : Nat} {l : List Value} {e : TypeId} (h : Kept E S w w') (hb : Blk w b l e) (hs : ¬ S (E.tg b)) : Blk w' b l e := (h.block b hb.lt hs).trans hb
theorem Kept.node {E : Env} {S : Tag → Prop} {w w' : World} {k : Id} {r : Rec} (h : Kept E S w w') (hn : NodeAt w E k r) (h1 : ¬ S (.node k)) (h2 : ¬ S (.left k)) (h3 : ¬ S (.right k)) : NodeAt w' E k r := by
  obtain ⟨ht, sl, sr, hb, hl, hr⟩ := hn
  exact ⟨ht, sl, sr, h.blk hb (by rw [ht]; exact h1), h.row hl h2, h.row hr h3⟩
theorem Kept.map {E : Env} {S : Tag → Prop} {w w' : World} {α : Type} {R : Value → α → Prop} {b : Nat} {m : List (Id × α)} (h : Kept E S w w') (hm : SxG.MpAt idv w b R m) (hs : ¬ S (E.tg b)) : SxG.MpAt idv w' b R m :=
  hm.mono (h.block b hm.lt hs) fun _ _ h => h
/-- What no unit's node, nor the sequence's own, is touched by. -/
theorem Core.kept {E : Env} {S : Tag → Prop} {w w' : World} {ord rt N D : List Id} {ρ : Id → Rec} (h : Core w E ord rt N D ρ) (hk : Kept E S w w') (hs : ∀ t, S t → t = .other) : Core w' E ord rt N D ρ := by
  have no : ∀ t, t ≠ .other → ¬ S t := fun t ht hS => ht (hs t hS)
  obtain ⟨so, sr, fresh, m, h1, h2, h3, h4, h5⟩ := h.seq
  obtain ⟨es, h6, h7⟩ := h.all
  exact ⟨h.tp, h.tma, h.tmt, ⟨so, sr, fresh, m, hk.blk h1 (by rw [h.tp]; exact no _ (by simp)), hk.row h2 (no _ (by simp)), hk.row h3 (no _ (by simp)), hk.map h4 (by rw [h.tmt]; exact no _ (by simp)), h5⟩,
    ⟨es, hk.map h6 (by rw [h.tma]; exact no _ (by simp)), h7⟩, fun k hkN => hk.node (h.nodes k hkN) (no _ (by simp)) (no _ (by simp)) (no _ (by simp))⟩
theorem Core.below {E : Env} {w w' : World} {ord rt N D : List Id} {ρ : Id → Rec} (h : Core w E ord rt N D ρ) (hb : Below w.heap.size w w') : Core w' E ord rt N D ρ :=
  h.kept (S := fun _ => False) (.of hb) fun _ h => h.elim
end Sq
end Go.Proofs.Ytmammcgdjjldbaa
