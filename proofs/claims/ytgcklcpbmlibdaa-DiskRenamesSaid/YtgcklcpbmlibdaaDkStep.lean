/- quirelaw4.light and play: scripts of steps. -/
import Derived.Test.YtgcklcpbmlibdaaDkPlain
namespace Go.Proofs.Ytgcklcpbmlibdaa
set_option maxRecDepth 100000
namespace Dk
open Go Go.RowKit Sx
/-- A step in memory, from cell o of block b on. -/
structure StAt (w : World) (b o : Nat) (s : St) : Prop where
  what : w.cell? ⟨b, o, none⟩ = some (.int .i64 s.what)
  n : w.cell? ⟨b, o + 1, none⟩ = some (.int .i64 s.n)
  name : w.cell? ⟨b, o + 2, none⟩ = some (.string s.name)
  to : w.cell? ⟨b, o + 3, none⟩ = some (.string s.to)
  bytes : ∃ v, w.cell? ⟨b, o + 4, none⟩ = some v ∧ By w v s.b
  keep : ∃ a c, w.cell? ⟨b, o + 5, none⟩ = some (.slice a s.k c)
  wn : -9223372036854775808 ≤ s.n ∧ s.n < 9223372036854775808
  ww : -9223372036854775808 ≤ s.what ∧ s.what < 9223372036854775808
  z1 : s.name.size ≤ 281474976710656
  z2 : s.to.size ≤ 281474976710656
  z3 : s.b.length ≤ 281474976710656
  z4 : s.k ≤ 281474976710656
theorem cell_below {w w' : World} {b o B : Nat} {v : Value} (h : w.cell? ⟨b, o, none⟩ = some v) (hb : Below B w w') (hB : w.heap.size ≤ B) : w'.cell? ⟨b, o, none⟩ = some v :=
  (hb.cell (p := ⟨b, o, none⟩) (Nat.lt_of_lt_of_le (cell_lt h) hB)).trans h
theorem StAt.below {w w' : World} {b o B : Nat} {s : St} (h : StAt w b o s) (hb : Below B w w') (hB : w.heap.size ≤ B) : StAt w' b o s := by
  obtain ⟨h1, h2, h3, h4, ⟨v, h5, h6⟩, ⟨a, c, h7⟩, h8, h9, h10, h11, h12, h13⟩ := h
  exact ⟨cell_below h1 hb hB, cell_below h2 hb hB, cell_below h3 hb hB, cell_below h4 hb hB, ⟨v, cell_below h5 hb hB, h6.below hb hB⟩, ⟨a, c, cell_below h7 hb hB⟩, h8, h9, h10, h11, h12, h13⟩
/-- A script in memory. -/
def Steps (w : World) (v : Value) (l : List St) : Prop :=
  (∃ a c, v = .slice a l.length c) ∧ ∀ i (h : i < l.length), ∃ b off c, v = .slice (some ⟨b, off, none⟩) l.length c ∧ StAt w b (off + i * 6) l[i]
theorem Steps.below {w w' : World} {v : Value} {l : List St} {B : Nat} (h : Steps w v l) (hb : Below B w w') (hB : w.heap.size ≤ B) : Steps w' v l :=
  ⟨h.1, fun i hi => by
    obtain ⟨b, off, c, hv, hs⟩ := h.2 i hi
    exact ⟨b, off, c, hv, hs.below hb hB⟩⟩
theorem weight_le : ∀ (l : List St) (i : Nat), weight (l.drop i) ≤ weight l
  | _, 0 => Nat.le_refl _
  | [], _ + 1 => Nat.le_refl _
  | s :: l, i + 1 => by have := weight_le l i; simp only [List.drop_succ_cons, weight]; omega
attribute [local irreducible] W Lst Qst Pu seqQ blkQ rndQ cutQ retQ Does Enters IntKind.wrap bits sb World.alloc World.putObj Blk
theorem c_light (v : Value) (l : List St) (hl : l.length ≤ 281474976710656) (w : World) (h : Steps w v l) : Does Try.prog 21 #[v] w fun r w' => ∃ t : Bool, r = .bool t ∧ Below w.heap.size w w' ∧ (t = true → l.length ≤ 300 ∧ weight l ≤ 50000) := by
  obtain ⟨a, c, rfl⟩ := h.1
  refine Does_of (args := [.slice a l.length c]) Try.func21 (by kernel_rfl) rfl rfl rfl rfl rfl ?_
  (refine Ga ?_)
  refine W_loop (α := Nat × Nat) (fun x => [(0, .slice a l.length c), (3, .int .i64 (x.2 : Int)), (4, .int .i64 (x.1 : Int))])
    (fun x A => x.1 ≤ l.length ∧ x.2 + weight (l.drop x.1) = weight l ∧ x.2 ≤ 2000000000000000 ∧ Below w.heap.size w A) (fun x _ => l.length - x.1) (0, 0) ⟨Nat.zero_le _, by simp, by omega, Bel⟩ ⟨rfl, rfl, rfl, trivial⟩ ?_
  rintro J ⟨i, n⟩ A ⟨hi, hn, hn2, hb⟩
  dsimp only at hi hn hn2 ⊢
  have hs := h.below hb (Nat.le_refl _)
  by_cases hil : i < l.length
  · by_cases hn5 : n ≤ 50000
    · obtain ⟨b, off, c', hv, hst⟩ := hs.2 i hil
      simp only [Value.slice.injEq] at hv
      obtain ⟨rfl, _, rfl⟩ := hv
      obtain ⟨bv, hbv, hby⟩ := hst.bytes
      obtain ⟨b1, b2, rfl⟩ := hby.form
      obtain ⟨k1, k2, hk⟩ := hst.keep
      have hnm := hst.name
      have hto := hst.to
      have z1 := hst.z1
      have z2 := hst.z2
      have z3 := hst.z3
      have z4 := hst.z4
      have hw := weight_get l i hil
      generalize l[i] = s at *
      (refine Ga ?_)
      refine W_draws (Grown _) rfl (by kernel_rfl) (grown_start _) ?_
      (refine Qb ?_)
      apply Qst_pu
      · apply P_idx
        focus rfl
        focus rfl
        focus rfl
        focus rfl
        focus rfl
        focus omega
        focus omega
      focus rfl
      (refine Qb ?_)
      apply Qst_loadc
      focus rfl
      focus rfl
      focus rfl
      focus (intro A9 hb9; exact cell_below hbv hb9 (Nat.le_refl _))
      focus rfl
      (refine Qb ?_)
      apply Qst_pu
      · apply P_idx
        focus rfl
        focus rfl
        focus rfl
        focus rfl
        focus rfl
        focus omega
        focus omega
      focus rfl
      (refine Qb ?_)
      apply Qst_loadc
      focus rfl
      focus rfl
      focus rfl
      focus (intro A9 hb9; exact cell_below hnm hb9 (Nat.le_refl _))
      focus rfl
      (refine Qb ?_)
      apply Qst_pu
      · apply P_idx
        focus rfl
        focus rfl
        focus rfl
        focus rfl
        focus rfl
        focus omega
        focus omega
      focus rfl
      (refine Qb ?_)
      apply Qst_loadc
      focus rfl
      focus rfl
      focus rfl
      focus (intro A9 hb9; exact cell_below hto hb9 (Nat.le_refl _))
      focus rfl
      (refine Qb ?_)
      apply Qst_pu
      · apply P_idx
        focus rfl
        focus rfl
        focus rfl
        focus rfl
        focus rfl
        focus omega
        focus omega
      focus rfl
      (refine Qb ?_)
      apply Qst_loadc
      focus rfl
      focus rfl
      focus rfl
      focus (intro A9 hb9; exact cell_below hk hb9 (Nat.le_refl _))
      focus rfl
      (refine Qb ?_)
      intro w2 hb2
      have b2 := Sx.Below.after hb hb2
      (refine Ga ?_)
      refine rndQ_n (α := Nat × Nat) (i + 1, n + s.b.length + s.name.size + s.to.size + s.k) ⟨by dsimp only; omega, by dsimp only; omega, by dsimp only; omega, b2⟩ ⟨rfl, ?_, ?_, trivial⟩ (by dsimp only; omega)
      · show Value.int .i64 ((n : Int) + (s.b.length : Int) + (s.name.size : Int) + (s.to.size : Int) + (s.k : Int)) = Value.int .i64 ((n + s.b.length + s.name.size + s.to.size + s.k : Nat) : Int)
        simp only [Int.natCast_add]
      · show Value.int .i64 ((i : Int) + 1) = Value.int .i64 ((i + 1 : Nat) : Int)
        rw [Int.natCast_add]
        rfl
    · by_cases hl3 : l.length ≤ 300
      · (refine Ga ?_)
        (apply retQ1; (focus rfl))
        exact ⟨false, rfl, hb, fun e => by cases e⟩
      · (refine Ga ?_)
        (apply retQ1; (focus rfl))
        exact ⟨false, rfl, hb, fun e => by cases e⟩
  · have hie : i = l.length := by omega
    subst hie
    rw [List.drop_length] at hn
    simp only [weight, Nat.add_zero] at hn
    by_cases hl3 : l.length ≤ 300
    · by_cases hn5 : n ≤ 50000
      · (refine Ga ?_)
        (apply retQ1; (focus rfl))
        exact ⟨true, rfl, hb, fun _ => ⟨hl3, by omega⟩⟩
      · (refine Ga ?_)
        (apply retQ1; (focus rfl))
        exact ⟨false, rfl, hb, fun e => by cases e⟩
    · (refine Ga ?_)
      (apply retQ1; (focus rfl))
      exact ⟨false, rfl, hb, fun e => by cases e⟩
end Dk
end Go.Proofs.Ytgcklcpbmlibdaa
