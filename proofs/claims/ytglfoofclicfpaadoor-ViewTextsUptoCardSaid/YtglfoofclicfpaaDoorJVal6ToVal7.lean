/- Merged: Val6, Val7. -/
import Derived.Test.YtglfoofclicfpaaDoorJUtfPlainToVal5
namespace Go.Proofs.YtglfoofclicfpaaDoor
set_option maxRecDepth 100000
namespace Val
open Go Go.RowKit Sx Fl
theorem and_top (f : Nat) (h1 : 9223372036854775808 ≤ f) (h2 : f < 18446744073709551616) : bits .and .i64 ((f : Int) - 18446744073709551616) 9223372036854775807 = (rung f : Int) := by
  have e1 : (BitVec.ofInt 64 ((f : Int) - 18446744073709551616)).toNat = f := by
    rw [BitVec.toNat_ofInt]; omega
  have e2 : (BitVec.ofInt 64 9223372036854775807).toNat = 2 ^ 63 - 1 := by decide
  show IntKind.i64.wrap ((BitVec.ofInt 64 ((f : Int) - 18446744073709551616) &&& BitVec.ofInt 64 9223372036854775807).toNat : Int) = _
  rw [BitVec.toNat_and, e1, e2, Nat.and_two_pow_sub_one_eq_mod]
  unfold rung
  have : f % 2 ^ 63 < 9223372036854775808 := Nat.mod_lt _ (by omega)
  rw [show (2 : Nat) ^ 63 = 9223372036854775808 by rfl]
  simp [IntKind.wrap, IntKind.signed, IntKind.bits]
  omega
attribute [local irreducible] W Lst Qst Pu seqQ blkQ rndQ cutQ retQ Does Enters IntKind.wrap bits sb World.alloc World.putObj Blk
theorem r_Bits (f : Nat) (w : World) : Does Tryd.prog 35 #[.float .f64 f] w fun v w' => v = .int .u64 (nbits f) ∧ w = w' := by
  refine Does_of (args := [.float .f64 f]) Tryd.func35 (by kernel_rfl) rfl rfl rfl rfl rfl ?_
  unfold nbits
  cases h : isNaN f
  · have ho := ord_self h
    (refine Gf ?_)
    (apply retQ1; (focus rfl))
    exact ⟨rfl, rfl⟩
  · have ho := ord_self_nan h
    (refine Gf ?_)
    (apply retQ1; (focus rfl))
    exact ⟨rfl, rfl⟩
theorem cmpS_cases (s t : ByteArray) : cmpS s t = -1 ∨ cmpS s t = 0 ∨ cmpS s t = 1 := by
  unfold cmpS
  generalize s.data.toList = a
  generalize t.data.toList = b
  induction a generalizing b with
  | nil => cases b <;> simp [Lib.compareBytes]
  | cons x a ih =>
    cases b with
    | nil => simp [Lib.compareBytes]
    | cons y b =>
      unfold Lib.compareBytes
      split
      · simp
      · split
        · simp
        · exact ih b
end Val
namespace Val
open Go Go.RowKit Sx Fl
attribute [local irreducible] W Lst Qst Pu seqQ blkQ rndQ cutQ retQ Does Enters IntKind.wrap bits sb World.alloc World.putObj Blk
set_option maxHeartbeats 4000000 in
theorem r_Check (x : Vl) (w : World) : Does Tryd.prog 17 #[x.v] w fun v w' => v = .int .i64 (if okV x then 0 else 20) ∧ Below w.heap.size w w' := by
  obtain ⟨k, n, f, s⟩ := x
  refine Does_of (args := [.agg #[.int .i64 k, .int .i64 n, .float .f64 f, .string s]]) Tryd.func17 (by kernel_rfl) rfl rfl rfl rfl rfl ?_
  by_cases h0 : k = 0
  · subst h0
    by_cases hn : n = 0
    · skip
      by_cases hf : f = 0
      · skip
        by_cases he : s = ⟨#[]⟩
        · skip
          rw [show okV ⟨0, n, f, s⟩ = true by unfold okV; simp [*]]
          (refine Gf ?_)
          (apply retQ1; (focus rfl))
          exact ⟨rfl, Bel⟩
        · skip
          rw [show okV ⟨0, n, f, s⟩ = false by unfold okV; simp [*]]
          (refine Gf ?_)
          (apply retQ1; (focus rfl))
          exact ⟨rfl, Bel⟩
      · skip
        by_cases he : s = ⟨#[]⟩
        · skip
          rw [show okV ⟨0, n, f, s⟩ = false by unfold okV; simp [*]]
          (refine Gf ?_)
          (apply retQ1; (focus rfl))
          exact ⟨rfl, Bel⟩
        · skip
          rw [show okV ⟨0, n, f, s⟩ = false by unfold okV; simp [*]]
          (refine Gf ?_)
          (apply retQ1; (focus rfl))
          exact ⟨rfl, Bel⟩
    · skip
      by_cases hf : f = 0
      · skip
        by_cases he : s = ⟨#[]⟩
        · skip
          rw [show okV ⟨0, n, f, s⟩ = false by unfold okV; simp [*]]
          (refine Gf ?_)
          (apply retQ1; (focus rfl))
          exact ⟨rfl, Bel⟩
        · skip
          rw [show okV ⟨0, n, f, s⟩ = false by unfold okV; simp [*]]
          (refine Gf ?_)
          (apply retQ1; (focus rfl))
          exact ⟨rfl, Bel⟩
      · skip
        by_cases he : s = ⟨#[]⟩
        · skip
          rw [show okV ⟨0, n, f, s⟩ = false by unfold okV; simp [*]]
          (refine Gf ?_)
          (apply retQ1; (focus rfl))
          exact ⟨rfl, Bel⟩
        · skip
          rw [show okV ⟨0, n, f, s⟩ = false by unfold okV; simp [*]]
          (refine Gf ?_)
          (apply retQ1; (focus rfl))
          exact ⟨rfl, Bel⟩
  by_cases h5 : k = 5
  · subst h5
    by_cases hn : n = 0
    · skip
      by_cases hf : f = 0
      · skip
        by_cases he : s = ⟨#[]⟩
        · skip
          rw [show okV ⟨5, n, f, s⟩ = true by unfold okV; simp [*]]
          (refine Gf ?_)
          (apply retQ1; (focus rfl))
          exact ⟨rfl, Bel⟩
        · skip
          rw [show okV ⟨5, n, f, s⟩ = false by unfold okV; simp [*]]
          (refine Gf ?_)
          (apply retQ1; (focus rfl))
          exact ⟨rfl, Bel⟩
      · skip
        by_cases he : s = ⟨#[]⟩
        · skip
          rw [show okV ⟨5, n, f, s⟩ = false by unfold okV; simp [*]]
          (refine Gf ?_)
          (apply retQ1; (focus rfl))
          exact ⟨rfl, Bel⟩
        · skip
          rw [show okV ⟨5, n, f, s⟩ = false by unfold okV; simp [*]]
          (refine Gf ?_)
          (apply retQ1; (focus rfl))
          exact ⟨rfl, Bel⟩
    · skip
      by_cases hf : f = 0
      · skip
        by_cases he : s = ⟨#[]⟩
        · skip
          rw [show okV ⟨5, n, f, s⟩ = false by unfold okV; simp [*]]
          (refine Gf ?_)
          (apply retQ1; (focus rfl))
          exact ⟨rfl, Bel⟩
        · skip
          rw [show okV ⟨5, n, f, s⟩ = false by unfold okV; simp [*]]
          (refine Gf ?_)
          (apply retQ1; (focus rfl))
          exact ⟨rfl, Bel⟩
      · skip
        by_cases he : s = ⟨#[]⟩
        · skip
          rw [show okV ⟨5, n, f, s⟩ = false by unfold okV; simp [*]]
          (refine Gf ?_)
          (apply retQ1; (focus rfl))
          exact ⟨rfl, Bel⟩
        · skip
          rw [show okV ⟨5, n, f, s⟩ = false by unfold okV; simp [*]]
          (refine Gf ?_)
          (apply retQ1; (focus rfl))
          exact ⟨rfl, Bel⟩
  by_cases h1 : k = 1
  · subst h1
    by_cases hn : n = 0
    · skip
      by_cases hf : f = 0
      · skip
        by_cases he : s = ⟨#[]⟩
        · skip
          rw [show okV ⟨1, n, f, s⟩ = true by unfold okV; simp [*]]
          (refine Gf ?_)
          (apply retQ1; (focus rfl))
          exact ⟨rfl, Bel⟩
        · skip
          rw [show okV ⟨1, n, f, s⟩ = false by unfold okV; simp [*]]
          (refine Gf ?_)
          (apply retQ1; (focus rfl))
          exact ⟨rfl, Bel⟩
      · skip
        by_cases he : s = ⟨#[]⟩
        · skip
          rw [show okV ⟨1, n, f, s⟩ = false by unfold okV; simp [*]]
          (refine Gf ?_)
          (apply retQ1; (focus rfl))
          exact ⟨rfl, Bel⟩
        · skip
          rw [show okV ⟨1, n, f, s⟩ = false by unfold okV; simp [*]]
          (refine Gf ?_)
          (apply retQ1; (focus rfl))
          exact ⟨rfl, Bel⟩
    · skip
      by_cases hn1 : n = 1
      · skip
        by_cases hf : f = 0
        · skip
          by_cases he : s = ⟨#[]⟩
          · skip
            rw [show okV ⟨1, n, f, s⟩ = true by unfold okV; simp [*]]
            (refine Gf ?_)
            (apply retQ1; (focus rfl))
            exact ⟨rfl, Bel⟩
          · skip
            rw [show okV ⟨1, n, f, s⟩ = false by unfold okV; simp [*]]
            (refine Gf ?_)
            (apply retQ1; (focus rfl))
            exact ⟨rfl, Bel⟩
        · skip
          by_cases he : s = ⟨#[]⟩
          · skip
            rw [show okV ⟨1, n, f, s⟩ = false by unfold okV; simp [*]]
            (refine Gf ?_)
            (apply retQ1; (focus rfl))
            exact ⟨rfl, Bel⟩
          · skip
            rw [show okV ⟨1, n, f, s⟩ = false by unfold okV; simp [*]]
            (refine Gf ?_)
            (apply retQ1; (focus rfl))
            exact ⟨rfl, Bel⟩
      · skip
        by_cases hf : f = 0
        · skip
          by_cases he : s = ⟨#[]⟩
          · skip
            rw [show okV ⟨1, n, f, s⟩ = false by unfold okV; simp [*]]
            (refine Gf ?_)
            (apply retQ1; (focus rfl))
            exact ⟨rfl, Bel⟩
          · skip
            rw [show okV ⟨1, n, f, s⟩ = false by unfold okV; simp [*]]
            (refine Gf ?_)
            (apply retQ1; (focus rfl))
            exact ⟨rfl, Bel⟩
        · skip
          by_cases he : s = ⟨#[]⟩
          · skip
            rw [show okV ⟨1, n, f, s⟩ = false by unfold okV; simp [*]]
            (refine Gf ?_)
            (apply retQ1; (focus rfl))
            exact ⟨rfl, Bel⟩
          · skip
            rw [show okV ⟨1, n, f, s⟩ = false by unfold okV; simp [*]]
            (refine Gf ?_)
            (apply retQ1; (focus rfl))
            exact ⟨rfl, Bel⟩
  by_cases h2 : k = 2
  · subst h2
    by_cases hf : f = 0
    · skip
      by_cases he : s = ⟨#[]⟩
      · skip
        rw [show okV ⟨2, n, f, s⟩ = true by unfold okV; simp [*]]
        (refine Gf ?_)
        (apply retQ1; (focus rfl))
        exact ⟨rfl, Bel⟩
      · skip
        rw [show okV ⟨2, n, f, s⟩ = false by unfold okV; simp [*]]
        (refine Gf ?_)
        (apply retQ1; (focus rfl))
        exact ⟨rfl, Bel⟩
    · skip
      by_cases he : s = ⟨#[]⟩
      · skip
        rw [show okV ⟨2, n, f, s⟩ = false by unfold okV; simp [*]]
        (refine Gf ?_)
        (apply retQ1; (focus rfl))
        exact ⟨rfl, Bel⟩
      · skip
        rw [show okV ⟨2, n, f, s⟩ = false by unfold okV; simp [*]]
        (refine Gf ?_)
        (apply retQ1; (focus rfl))
        exact ⟨rfl, Bel⟩
  by_cases h3 : k = 3
  · subst h3
    by_cases hf : f = 0
    · skip
      by_cases hn : n = 0
      · skip
        by_cases he : s = ⟨#[]⟩
        · skip
          rw [show okV ⟨3, n, f, s⟩ = true by unfold okV; simp [*]]
          (refine Gf ?_)
          (apply retQ1; (focus rfl))
          exact ⟨rfl, Bel⟩
        · skip
          rw [show okV ⟨3, n, f, s⟩ = false by unfold okV; simp [*]]
          (refine Gf ?_)
          (apply retQ1; (focus rfl))
          exact ⟨rfl, Bel⟩
      · skip
        by_cases he : s = ⟨#[]⟩
        · skip
          rw [show okV ⟨3, n, f, s⟩ = false by unfold okV; simp [*]]
          (refine Gf ?_)
          (apply retQ1; (focus rfl))
          exact ⟨rfl, Bel⟩
        · skip
          rw [show okV ⟨3, n, f, s⟩ = false by unfold okV; simp [*]]
          (refine Gf ?_)
          (apply retQ1; (focus rfl))
          exact ⟨rfl, Bel⟩
    · skip
      by_cases hn : n = 0
      · skip
        by_cases he : s = ⟨#[]⟩
        · skip
          rw [show okV ⟨3, n, f, s⟩ = true by unfold okV; simp [*]]
          (refine Gf ?_)
          (apply retQ1; (focus rfl))
          exact ⟨rfl, Bel⟩
        · skip
          rw [show okV ⟨3, n, f, s⟩ = false by unfold okV; simp [*]]
          (refine Gf ?_)
          (apply retQ1; (focus rfl))
          exact ⟨rfl, Bel⟩
      · skip
        by_cases he : s = ⟨#[]⟩
        · skip
          rw [show okV ⟨3, n, f, s⟩ = false by unfold okV; simp [*]]
          (refine Gf ?_)
          (apply retQ1; (focus rfl))
          exact ⟨rfl, Bel⟩
        · skip
          rw [show okV ⟨3, n, f, s⟩ = false by unfold okV; simp [*]]
          (refine Gf ?_)
          (apply retQ1; (focus rfl))
          exact ⟨rfl, Bel⟩
  by_cases h4 : k = 4
  · subst h4
    by_cases hz : n = 0 ∧ f = 0 ∧ s.size ≤ 4096
    · obtain ⟨hn, hf, hz⟩ := hz
      have hr := fun A => Utf.r_Check s A (by omega)
      (refine Gf ?_)
      (apply Lst_call; (focus rfl); (focus rfl))
      refine (hr _).mono ?_
      rintro v w1 ⟨rfl, hb1⟩
      have b1 := Sx.Below.after (w := w) Bel hb1
      have s1 := hb1.size
      try simp only [Sx.sizes] at s1
      cases hv : Lib.validD s.data.toList
      · rw [show okV ⟨4, n, f, s⟩ = false by unfold okV; simp [hn, hf, hz, hv]]
        (refine Gf ?_)
        (apply retQ1; (focus rfl))
        exact ⟨rfl, Bel⟩
      · rw [show okV ⟨4, n, f, s⟩ = true by unfold okV; simp [hn, hf, hz, hv]]
        (refine Gf ?_)
        (apply retQ1; (focus rfl))
        exact ⟨rfl, Bel⟩
    · rw [show okV ⟨4, n, f, s⟩ = false by unfold okV; simp; intro a b c; exact absurd ⟨a, b, c⟩ hz]
      by_cases hn : n = 0
      · by_cases hf : f = 0
        · have hz' : ¬ s.size ≤ 4096 := fun h => hz ⟨hn, hf, h⟩
          (refine Gf ?_)
          (apply retQ1; (focus rfl))
          exact ⟨rfl, Bel⟩
        · clear hz
          (refine Gf ?_)
          (apply retQ1; (focus rfl))
          exact ⟨rfl, Bel⟩
      · clear hz
        by_cases hf : f = 0
        · skip
          (refine Gf ?_)
          (apply retQ1; (focus rfl))
          exact ⟨rfl, Bel⟩
        · skip
          (refine Gf ?_)
          (apply retQ1; (focus rfl))
          exact ⟨rfl, Bel⟩
  rw [show okV ⟨k, n, f, s⟩ = false by unfold okV; simp [h0, h1, h2, h3, h4, h5]]
  by_cases hf : f = 0
  · (refine Gf ?_)
    (apply retQ1; (focus rfl))
    exact ⟨rfl, Bel⟩
  · (refine Gf ?_)
    (apply retQ1; (focus rfl))
    exact ⟨rfl, Bel⟩
end Val
end Go.Proofs.YtglfoofclicfpaaDoor
