/- The reference's sequence in memory: nodes as they came, children by their numbers. -/
import Derived.Test.YtmammcgdjjldbaaSqZ
import Derived.Test.YtmammcgdjjldbaaSxR
import Derived.Test.YtmammcgdjjldbaaIds
namespace Go.Proofs.Ytmammcgdjjldbaa
set_option maxRecDepth 100000
namespace Sq
open Go Go.RowKit Sx Tl
/-- A unit's number. -/
def ix (N : List Id) (k : Id) : Int := (N.idxOf k : Int)
def px (N : List Id) : Option Id → Int
  | none => -1
  | some k => ix N k
def fx (N : List Id) (k : Id) : Int := if k ∈ N then ix N k else -1
def rcs (N : List Id) (r : Rec) (b : Bool) (sl sr : Value) : List Value := [.int .u64 (r.u.id.1 : Int), .int .u64 (r.u.id.2 : Int), .int .u64 (r.u.l.1 : Int), .int .u64 (r.u.l.2 : Int), .int .u64 (r.u.r.1 : Int), .int .u64 (r.u.r.2 : Int), .int .i64 (px N r.par), .bool b, sl, sr]
/-- A row of numbers of the reference's own. -/
structure Lz (w : World) (F : Nat → Prop) (p : Nat) (v : Value) (zs : List Int) : Prop where
  ints : Ints w .i64 v zs
  own : zs ≠ [] → ∀ b off n c, v = .slice (some ⟨b, off, none⟩) n c → F b ∧ b ≠ p
  cap : ∃ a c, v = .slice a zs.length c ∧ zs.length ≤ c
/-- What lies where. -/
def RfEx (w : World) (p : Nat) (F : Nat → Prop) (N : List Id) (ρ : Id → Rec) (rt ord : List Id) (vl vm vo : Value) (cs : List (List Value)) : Prop :=
  Blk w p [vl, vm, vo] 59 ∧ w.ownsRow 0 84 10 vl N.length cs.flatten ∧ (∀ g, vl.ownBlock = some g → F g ∧ g ≠ p) ∧ cs.length = N.length ∧ (∀ l ∈ cs, l.length = 10) ∧ Lz w (fun g => F g ∧ vl.ownBlock ≠ some g) p vm (rt.map (ix N)) ∧ Lz w (fun g => F g ∧ vl.ownBlock ≠ some g) p vo (ord.map (ix N)) ∧
    ∀ k ∈ N, ∃ b sl sr, cs[N.idxOf k]? = some (rcs N (ρ k) b sl sr) ∧ Lz w (fun g => F g ∧ vl.ownBlock ≠ some g) p sl ((ρ k).L.map (ix N)) ∧ Lz w (fun g => F g ∧ vl.ownBlock ≠ some g) p sr ((ρ k).R.map (ix N))
structure RfAt (w : World) (p : Nat) (F : Nat → Prop) (N : List Id) (ρ : Id → Rec) (rt ord : List Id) : Prop where
  lt : ∀ g, F g → g < w.heap.size
  own : F p
  ex : ∃ (vl vm vo : Value) (cs : List (List Value)), RfEx w p F N ρ rt ord vl vm vo cs
theorem Ints.kept {w w' : World} {k : IntKind} {v : Value} {zs : List Int} (h : Ints w k v zs) (hs : w.heap.size ≤ w'.heap.size) (hb : zs ≠ [] → ∀ b off n c, v = .slice (some ⟨b, off, none⟩) n c → w'.heap[b]? = w.heap[b]?) : Ints w' k v zs := by
  obtain ⟨b, off, cap, h1, h2, h3⟩ := h
  refine ⟨b, off, cap, h1, fun hz => Nat.lt_of_lt_of_le (h2 hz) hs, fun j hj => ?_⟩
  have hz : zs ≠ [] := by intro e; subst e; simp at hj
  rcases h1 with h1 | ⟨_, h1⟩
  · exact (World.cell?_of_block (a := ⟨b, off + j, none⟩) (hb hz b off _ _ h1)).trans (h3 j hj)
  · exact absurd h1 hz
theorem Lz.kept {w w' : World} {F F' : Nat → Prop} {p : Nat} {v : Value} {zs : List Int} (h : Lz w F p v zs) (hs : w.heap.size ≤ w'.heap.size) (hF : ∀ g, F g → F' g) (hb : ∀ g, F g → g ≠ p → w'.heap[g]? = w.heap[g]?) : Lz w' F' p v zs :=
  ⟨Ints.kept h.ints hs fun hz b off n c e => hb b (h.own hz b off n c e).1 (h.own hz b off n c e).2, fun hz b off n c e => ⟨hF b (h.own hz b off n c e).1, (h.own hz b off n c e).2⟩, h.cap⟩
theorem Lz.of_own {w : World} {F : Nat → Prop} {p B e nn : Nat} {v : Value} {zs : List Int} (h : w.ownsRow B e 1 v nn (zs.map (Value.int .i64))) (hF : ∀ g, v.ownBlock = some g → F g ∧ g ≠ p) : Lz w F p v zs := by
  have hl : zs.length = nn := by have := h.1; rw [List.length_map] at this; omega
  refine ⟨Ints.of_own h, fun _ b off n c e => ?_, ?_⟩
  · subst e
    exact hF b rfl
  · obtain ⟨a, c, hf, hc⟩ := own_form h
    exact ⟨a, c, by rw [hl]; exact hf, by rw [hl]; exact hc⟩
theorem RfAt.kept {w w' : World} {p : Nat} {F : Nat → Prop} {N : List Id} {ρ : Id → Rec} {rt ord : List Id} (h : RfAt w p F N ρ rt ord) (hs : w.heap.size ≤ w'.heap.size) (hb : ∀ g, F g → w'.heap[g]? = w.heap[g]?) : RfAt w' p F N ρ rt ord := by
  obtain ⟨vl, vm, vo, cs, h1, h2, h3, h4, h5, h6, h7, h8⟩ := h.ex
  refine ⟨fun g hg => Nat.lt_of_lt_of_le (h.lt g hg) hs, h.own, vl, vm, vo, cs, (hb p h.own).trans h1, own_kept h2 fun g hg => hb g (h3 g hg).1, h3, h4, h5, h6.kept hs (fun _ h => h) fun g hg _ => hb g hg.1, h7.kept hs (fun _ h => h) fun g hg _ => hb g hg.1, fun k hk => ?_⟩
  obtain ⟨b, sl, sr, h9, h10, h11⟩ := h8 k hk
  exact ⟨b, sl, sr, h9, h10.kept hs (fun _ h => h) fun g hg _ => hb g hg.1, h11.kept hs (fun _ h => h) fun g hg _ => hb g hg.1⟩
theorem RfAt.below {w w' : World} {p B : Nat} {F : Nat → Prop} {N : List Id} {ρ : Id → Rec} {rt ord : List Id} (h : RfAt w p F N ρ rt ord) (hb : Below B w w') (hB : ∀ g, F g → g < B) : RfAt w' p F N ρ rt ord :=
  h.kept hb.size fun g hg => hb.block g (hB g hg)
theorem RfAt.grown {w w' : World} {p : Nat} {F : Nat → Prop} {N : List Id} {ρ : Id → Rec} {rt ord : List Id} (h : RfAt w p F N ρ rt ord) (hb : Grown w w') : RfAt w' p F N ρ rt ord := h.below hb h.lt
/-- What is read of it. -/
theorem RfAt.view {w : World} {p : Nat} {F : Nat → Prop} {N : List Id} {ρ : Id → Rec} {rt ord : List Id} (h : RfAt w p F N ρ rt ord) : ∃ a c a1 c1 a2 c2, Blk w p [.slice a N.length c, .slice a1 rt.length c1, .slice a2 ord.length c2] 59 ∧ N.length ≤ c ∧ rt.length ≤ c1 ∧ Ints w .i64 (.slice a1 rt.length c1) (rt.map (ix N)) ∧ Ints w .i64 (.slice a2 ord.length c2) (ord.map (ix N)) ∧
    ∀ k ∈ N, ∃ g b b1 d1 b2 d2, a = some ⟨g, 0, none⟩ ∧ (∀ j u, (rcs N (ρ k) b (.slice b1 (ρ k).L.length d1) (.slice b2 (ρ k).R.length d2))[j]? = some u → w.cell? ⟨g, N.idxOf k * 10 + j, none⟩ = some u) ∧ (ρ k).L.length ≤ d1 ∧ Ints w .i64 (.slice b1 (ρ k).L.length d1) ((ρ k).L.map (ix N)) ∧ (ρ k).R.length ≤ d2 ∧ Ints w .i64 (.slice b2 (ρ k).R.length d2) ((ρ k).R.map (ix N)) := by
  obtain ⟨vl, vm, vo, cs, h1, h2, h3, h4, h5, h6, h7, h8⟩ := h.ex
  obtain ⟨a, c, rfl, hc⟩ := own_form h2
  obtain ⟨a1, c1, rfl, hc1⟩ := h6.cap
  obtain ⟨a2, c2, rfl, hc2⟩ := h7.cap
  have e1 := h6.ints
  have e2 := h7.ints
  simp only [List.length_map] at *
  refine ⟨a, c, a1, c1, a2, c2, h1, hc, hc1, e1, e2, fun k hk => ?_⟩
  obtain ⟨b, sl, sr, h9, h10, h11⟩ := h8 k hk
  obtain ⟨b1, d1, rfl, hd1⟩ := h10.cap
  obtain ⟨b2, d2, rfl, hd2⟩ := h11.cap
  have e3 := h10.ints
  have e4 := h11.ints
  simp only [List.length_map] at *
  have hs := SRows.of_own h2 h5 (by decide)
  have hi : N.idxOf k < cs.length := by rw [h4]; exact List.idxOf_lt_length_iff.2 hk
  obtain ⟨g, off, cap, hf | ⟨_, hf⟩, hr⟩ := hs
  · injection hf with e5 e6 e7
    have hoff : off = 0 := by
      rcases h2.2 with ⟨hv, _⟩ | ⟨g', cap', cur, hv, _⟩
      · rw [e5] at hv; cases hv
      · rw [e5] at hv; cases hv; rfl
    subst hoff
    subst e5
    refine ⟨g, b, b1, d1, b2, d2, rfl, fun j u hu => ?_, hd1, e3, hd2, e4⟩
    have := (hr _ hi).2 j u (by rw [List.getElem?_eq_getElem hi] at h9; rw [Option.some.inj h9]; exact hu)
    rwa [Nat.zero_add] at this
  · rw [hf] at hi
    exact absurd hi (Nat.not_lt_zero _)
end Sq
end Go.Proofs.Ytmammcgdjjldbaa
