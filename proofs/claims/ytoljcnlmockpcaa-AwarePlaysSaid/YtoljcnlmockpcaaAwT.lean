/- Two that know of one another, in memory. -/
import Derived.Test.YtoljcnlmockpcaaAwR1
import Derived.Test.YtoljcnlmockpcaaAwP2
namespace Go.Proofs.Ytoljcnlmockpcaa
set_option maxRecDepth 100000
namespace Aw
open Go Go.RowKit Sx Wire
theorem AwAt.n8 {w : World} {p mb : Nat} {a : Awr} (h : AwAt w p mb a) : ∀ b ∈ [p, mb], N8 w b := by
  intro b hb
  obtain ⟨h1, ⟨m, h2, _⟩, _⟩ := h
  simp only [List.mem_cons, List.not_mem_nil, or_false] at hb
  rcases hb with rfl | rfl
  · intro off z
    rw [h1.cell off]
    match off with
    | 0 => simp
    | 1 => simp
    | 2 => simp
    | 3 => simp
    | 4 => simp
    | n + 5 => simp
  · intro off z
    rw [h2.not_cells]
    simp
/-- Bytes stay, whatever is done with one that knows. -/
theorem AwAt.ints {w w' : World} {p mb : Nat} {a : Awr} {v : Value} {zs : List Int} (h : AwAt w p mb a) (hv : Ints w .u8 v zs) (hc : Chg [p, mb] w w') : Ints w' .u8 v zs := Wire.Ints.chg hv hc h.n8
theorem AwAt.ns {w : World} {p mb : Nat} {a : Awr} (h : AwAt w p mb a) : ∀ b ∈ [p, mb], ∀ off s, w.cell? ⟨b, off, none⟩ ≠ some (.string s) := by
  intro b hb off z
  obtain ⟨h1, ⟨m, h2, _⟩, _⟩ := h
  simp only [List.mem_cons, List.not_mem_nil, or_false] at hb
  rcases hb with rfl | rfl
  · rw [h1.cell off]
    match off with
    | 0 => simp
    | 1 => simp
    | 2 => simp
    | 3 => simp
    | 4 => simp
    | n + 5 => simp
  · rw [h2.not_cells]
    simp
/-- Entries stay, whatever is done with one that knows. -/
theorem AwAt.prs {w w' : World} {p mb : Nat} {a : Awr} {v : Value} {l : List Pr} (h : AwAt w p mb a) (hv : Prs w v l) (hc : Chg [p, mb] w w') : Prs w' v l := by
  obtain ⟨b, off, cap, hf, hr⟩ := hv
  refine ⟨b, off, cap, hf, fun i hi => ?_⟩
  obtain ⟨h1, h2⟩ := hr i hi
  refine ⟨Nat.lt_of_lt_of_le h1 hc.size, fun j u hu => ?_⟩
  have hn : b ∉ [p, mb] := fun hb => by
    have := h2 2 (.string (l[i]'(by simpa using hi)).s) (by rw [List.getElem_map]; rfl)
    exact h.ns b hb _ _ this
  have e : w'.cell? ⟨b, off + i * 4 + j, none⟩ = w.cell? ⟨b, off + i * 4 + j, none⟩ := by simp only [World.cell?, hc.block b h1 hn]
  rw [e]
  exact h2 j u hu
structure Two (w0 w : World) (p mb p2 mb2 : Nat) (a b : Awr) : Prop where
  A : AwAt w p mb a
  B : AwAt w p2 mb2 b
  n1 : p ≠ p2
  n2 : p ≠ mb2
  n3 : mb ≠ p2
  n4 : mb ≠ mb2
  lo : w0.heap.size ≤ p ∧ w0.heap.size ≤ mb ∧ w0.heap.size ≤ p2 ∧ w0.heap.size ≤ mb2
  bel : Below w0.heap.size w0 w
theorem Two.stepA {w0 w w' : World} {p mb p2 mb2 : Nat} {a b a' : Awr} (h : Two w0 w p mb p2 mb2 a b) (hA : AwAt w' p mb a') (hc : Chg [p, mb] w w') : Two w0 w' p mb p2 mb2 a' b :=
  ⟨hA, h.B.chg hc (by simp [Ne.symm h.n1, Ne.symm h.n3]) (by simp [Ne.symm h.n2, Ne.symm h.n4]), h.n1, h.n2, h.n3, h.n4, h.lo, h.bel.trans (hc.below (by
    intro x hx
    simp only [List.mem_cons, List.not_mem_nil, or_false] at hx
    rcases hx with rfl | rfl
    · exact h.lo.1
    · exact h.lo.2.1) h.bel.size)⟩
theorem Two.stepB {w0 w w' : World} {p mb p2 mb2 : Nat} {a b b' : Awr} (h : Two w0 w p mb p2 mb2 a b) (hB : AwAt w' p2 mb2 b') (hc : Chg [p2, mb2] w w') : Two w0 w' p mb p2 mb2 a b' :=
  ⟨h.A.chg hc (by simp [h.n1, h.n2]) (by simp [h.n3, h.n4]), hB, h.n1, h.n2, h.n3, h.n4, h.lo, h.bel.trans (hc.below (by
    intro x hx
    simp only [List.mem_cons, List.not_mem_nil, or_false] at hx
    rcases hx with rfl | rfl
    · exact h.lo.2.2.1
    · exact h.lo.2.2.2) h.bel.size)⟩
theorem Two.below {w0 w w' : World} {p mb p2 mb2 : Nat} {a b : Awr} (h : Two w0 w p mb p2 mb2 a b) (hb : Below w.heap.size w w') : Two w0 w' p mb p2 mb2 a b :=
  ⟨h.A.below hb, h.B.below hb, h.n1, h.n2, h.n3, h.n4, h.lo, h.bel.trans (hb.mono h.bel.size)⟩
theorem Two.new {w0 w1 w2 : World} {p mb p2 mb2 : Nat} {a b : Awr} (hp : w0.heap.size ≤ p) (hm : w0.heap.size ≤ mb) (hA : AwAt w1 p mb a) (b1 : Below w0.heap.size w0 w1) (hp2 : w1.heap.size ≤ p2) (hm2 : w1.heap.size ≤ mb2) (hB : AwAt w2 p2 mb2 b) (b2 : Below w1.heap.size w1 w2) : Two w0 w2 p mb p2 mb2 a b := by
  have h := hA.lt
  have s := b1.size
  exact ⟨hA.below b2, hB, by omega, by omega, by omega, by omega, ⟨hp, hm, by omega, by omega⟩, b1.trans (b2.mono s)⟩
theorem c_TakeE (p mb : Nat) (a : Awr) (v : Value) (b : List UInt8) {a' : Awr} {nw : Bool} {e : Int} (ht : a.take b = (a', nw, e)) (hl : b.length ≤ 100000000) (w : World) (h : AwAt w p mb a) (hv : Ints w .u8 v (nums b)) :
    Does Try.prog 13 #[.pointer (some ⟨p, 0, none⟩), v] w fun v w' => v = .tuple #[.bool nw, .int .i64 e] ∧ AwAt w' p mb a' ∧ Chg [p, mb] w w' := by
  have := c_Take p mb a v b hl w h hv
  rwa [ht] at this
theorem c_SeenE (p mb : Nat) (a : Awr) {l : List Pr} (hs : a.seen = l) (hl : a.es.length ≤ 100000000) (w : World) (h : AwAt w p mb a) : Does Try.prog 14 #[.pointer (some ⟨p, 0, none⟩)] w fun v w' =>
    (Prs w' v l ∧ ∃ x c, v = .slice x l.length c) ∧ Below w.heap.size w w' := by
  subst hs
  exact (c_Seen p mb a hl w h).mono fun _ _ h => ⟨⟨h.1, h.1.form⟩, h.2⟩
theorem Ints.oneB {w : World} {b : Nat} {x : UInt8} {T : TypeId} (h : Blk w b [.int .u8 (x.toNat : Int)] T) (c : Nat) : Ints w .u8 (.slice (some ⟨b, 0, none⟩) 1 c) (nums [x]) :=
  ⟨b, 0, c, .inl rfl, fun _ => h.lt, fun j hj => by
    have hj' : j < 1 := hj
    obtain rfl : j = 0 := by omega
    rw [h.cell]
    rfl⟩
theorem uvarint_pos (n : Nat) : 1 ≤ (Lib.uvarint n).length := by
  rw [Lib.uvarint]; split <;> simp
end Aw
end Go.Proofs.Ytoljcnlmockpcaa
