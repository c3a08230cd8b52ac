/- The walks of package quireref2: which values are taken. -/
import Derived.Test.YtmgipnckojopcaaGreatPcJPlaceToSqW
import Derived.Test.YtmgipnckojopcaaGreatPcVal5
namespace Go.Proofs.YtmgipnckojopcaaGreat
set_option maxRecDepth 100000
namespace Val
open Go Go.RowKit Sx Fl
attribute [local irreducible] W Lst Qst Pu seqQ blkQ rndQ cutQ retQ Does Enters IntKind.wrap bits sb World.alloc World.putObj Blk
set_option maxHeartbeats 4000000 in
theorem r_Check (x : Vl) (w : World) : Does Tryz.prog 48 #[x.v] w fun v w' => v = .int .i64 (if okV x then 0 else 20) ∧ Below w.heap.size w w' := by
  obtain ⟨k, n, f, s⟩ := x
  refine Does_of (args := [.agg #[.int .i64 k, .int .i64 n, .float .f64 f, .string s]]) Tryz.func48 (by kernel_rfl) rfl rfl rfl rfl rfl ?_
  by_cases h0 : k = 0
  · subst h0
    by_cases hn : n = 0
    · skip
      by_cases hf : f = 0
      · skip
        by_cases he : s = ⟨#[]⟩
        · skip
          rw [show okV ⟨0, n, f, s⟩ = true by unfold okV; simp [*]]
          (refine Gf ?_)
          (apply retQ1; (focus rfl))
          exact ⟨rfl, Bel⟩
        · skip
          rw [show okV ⟨0, n, f, s⟩ = false by unfold okV; simp [*]]
          (refine Gf ?_)
          (apply retQ1; (focus rfl))
          exact ⟨rfl, Bel⟩
      · skip
        by_cases he : s = ⟨#[]⟩
        · skip
          rw [show okV ⟨0, n, f, s⟩ = false by unfold okV; simp [*]]
          (refine Gf ?_)
          (apply retQ1; (focus rfl))
          exact ⟨rfl, Bel⟩
        · skip
          rw [show okV ⟨0, n, f, s⟩ = false by unfold okV; simp [*]]
          (refine Gf ?_)
          (apply retQ1; (focus rfl))
          exact ⟨rfl, Bel⟩
    · skip
      by_cases hf : f = 0
      · skip
        by_cases he : s = ⟨#[]⟩
        · skip
          rw [show okV ⟨0, n, f, s⟩ = false by unfold okV; simp [*]]
          (refine Gf ?_)
          (apply retQ1; (focus rfl))
          exact ⟨rfl, Bel⟩
        · skip
          rw [show okV ⟨0, n, f, s⟩ = false by unfold okV; simp [*]]
          (refine Gf ?_)
          (apply retQ1; (focus rfl))
          exact ⟨rfl, Bel⟩
      · skip
        by_cases he : s = ⟨#[]⟩
        · skip
          rw [show okV ⟨0, n, f, s⟩ = false by unfold okV; simp [*]]
          (refine Gf ?_)
          (apply retQ1; (focus rfl))
          exact ⟨rfl, Bel⟩
        · skip
          rw [show okV ⟨0, n, f, s⟩ = false by unfold okV; simp [*]]
          (refine Gf ?_)
          (apply retQ1; (focus rfl))
          exact ⟨rfl, Bel⟩
  by_cases h5 : k = 5
  · subst h5
    by_cases hn : n = 0
    · skip
      by_cases hf : f = 0
      · skip
        by_cases he : s = ⟨#[]⟩
        · skip
          rw [show okV ⟨5, n, f, s⟩ = true by unfold okV; simp [*]]
          (refine Gf ?_)
          (apply retQ1; (focus rfl))
          exact ⟨rfl, Bel⟩
        · skip
          rw [show okV ⟨5, n, f, s⟩ = false by unfold okV; simp [*]]
          (refine Gf ?_)
          (apply retQ1; (focus rfl))
          exact ⟨rfl, Bel⟩
      · skip
        by_cases he : s = ⟨#[]⟩
        · skip
          rw [show okV ⟨5, n, f, s⟩ = false by unfold okV; simp [*]]
          (refine Gf ?_)
          (apply retQ1; (focus rfl))
          exact ⟨rfl, Bel⟩
        · skip
          rw [show okV ⟨5, n, f, s⟩ = false by unfold okV; simp [*]]
          (refine Gf ?_)
          (apply retQ1; (focus rfl))
          exact ⟨rfl, Bel⟩
    · skip
      by_cases hf : f = 0
      · skip
        by_cases he : s = ⟨#[]⟩
        · skip
          rw [show okV ⟨5, n, f, s⟩ = false by unfold okV; simp [*]]
          (refine Gf ?_)
          (apply retQ1; (focus rfl))
          exact ⟨rfl, Bel⟩
        · skip
          rw [show okV ⟨5, n, f, s⟩ = false by unfold okV; simp [*]]
          (refine Gf ?_)
          (apply retQ1; (focus rfl))
          exact ⟨rfl, Bel⟩
      · skip
        by_cases he : s = ⟨#[]⟩
        · skip
          rw [show okV ⟨5, n, f, s⟩ = false by unfold okV; simp [*]]
          (refine Gf ?_)
          (apply retQ1; (focus rfl))
          exact ⟨rfl, Bel⟩
        · skip
          rw [show okV ⟨5, n, f, s⟩ = false by unfold okV; simp [*]]
          (refine Gf ?_)
          (apply retQ1; (focus rfl))
          exact ⟨rfl, Bel⟩
  by_cases h1 : k = 1
  · subst h1
    by_cases hn : n = 0
    · skip
      by_cases hf : f = 0
      · skip
        by_cases he : s = ⟨#[]⟩
        · skip
          rw [show okV ⟨1, n, f, s⟩ = true by unfold okV; simp [*]]
          (refine Gf ?_)
          (apply retQ1; (focus rfl))
          exact ⟨rfl, Bel⟩
        · skip
          rw [show okV ⟨1, n, f, s⟩ = false by unfold okV; simp [*]]
          (refine Gf ?_)
          (apply retQ1; (focus rfl))
          exact ⟨rfl, Bel⟩
      · skip
        by_cases he : s = ⟨#[]⟩
        · skip
          rw [show okV ⟨1, n, f, s⟩ = false by unfold okV; simp [*]]
          (refine Gf ?_)
          (apply retQ1; (focus rfl))
          exact ⟨rfl, Bel⟩
        · skip
          rw [show okV ⟨1, n, f, s⟩ = false by unfold okV; simp [*]]
          (refine Gf ?_)
          (apply retQ1; (focus rfl))
          exact ⟨rfl, Bel⟩
    · skip
      by_cases hn1 : n = 1
      · skip
        by_cases hf : f = 0
        · skip
          by_cases he : s = ⟨#[]⟩
          · skip
            rw [show okV ⟨1, n, f, s⟩ = true by unfold okV; simp [*]]
            (refine Gf ?_)
            (apply retQ1; (focus rfl))
            exact ⟨rfl, Bel⟩
          · skip
            rw [show okV ⟨1, n, f, s⟩ = false by unfold okV; simp [*]]
            (refine Gf ?_)
            (apply retQ1; (focus rfl))
            exact ⟨rfl, Bel⟩
        · skip
          by_cases he : s = ⟨#[]⟩
          · skip
            rw [show okV ⟨1, n, f, s⟩ = false by unfold okV; simp [*]]
            (refine Gf ?_)
            (apply retQ1; (focus rfl))
            exact ⟨rfl, Bel⟩
          · skip
            rw [show okV ⟨1, n, f, s⟩ = false by unfold okV; simp [*]]
            (refine Gf ?_)
            (apply retQ1; (focus rfl))
            exact ⟨rfl, Bel⟩
      · skip
        by_cases hf : f = 0
        · skip
          by_cases he : s = ⟨#[]⟩
          · skip
            rw [show okV ⟨1, n, f, s⟩ = false by unfold okV; simp [*]]
            (refine Gf ?_)
            (apply retQ1; (focus rfl))
            exact ⟨rfl, Bel⟩
          · skip
            rw [show okV ⟨1, n, f, s⟩ = false by unfold okV; simp [*]]
            (refine Gf ?_)
            (apply retQ1; (focus rfl))
            exact ⟨rfl, Bel⟩
        · skip
          by_cases he : s = ⟨#[]⟩
          · skip
            rw [show okV ⟨1, n, f, s⟩ = false by unfold okV; simp [*]]
            (refine Gf ?_)
            (apply retQ1; (focus rfl))
            exact ⟨rfl, Bel⟩
          · skip
            rw [show okV ⟨1, n, f, s⟩ = false by unfold okV; simp [*]]
            (refine Gf ?_)
            (apply retQ1; (focus rfl))
            exact ⟨rfl, Bel⟩
  by_cases h2 : k = 2
  · subst h2
    by_cases hf : f = 0
    · skip
      by_cases he : s = ⟨#[]⟩
      · skip
        rw [show okV ⟨2, n, f, s⟩ = true by unfold okV; simp [*]]
        (refine Gf ?_)
        (apply retQ1; (focus rfl))
        exact ⟨rfl, Bel⟩
      · skip
        rw [show okV ⟨2, n, f, s⟩ = false by unfold okV; simp [*]]
        (refine Gf ?_)
        (apply retQ1; (focus rfl))
        exact ⟨rfl, Bel⟩
    · skip
      by_cases he : s = ⟨#[]⟩
      · skip
        rw [show okV ⟨2, n, f, s⟩ = false by unfold okV; simp [*]]
        (refine Gf ?_)
        (apply retQ1; (focus rfl))
        exact ⟨rfl, Bel⟩
      · skip
        rw [show okV ⟨2, n, f, s⟩ = false by unfold okV; simp [*]]
        (refine Gf ?_)
        (apply retQ1; (focus rfl))
        exact ⟨rfl, Bel⟩
  by_cases h3 : k = 3
  · subst h3
    by_cases hf : f = 0
    · skip
      by_cases hn : n = 0
      · skip
        by_cases he : s = ⟨#[]⟩
        · skip
          rw [show okV ⟨3, n, f, s⟩ = true by unfold okV; simp [*]]
          (refine Gf ?_)
          (apply retQ1; (focus rfl))
          exact ⟨rfl, Bel⟩
        · skip
          rw [show okV ⟨3, n, f, s⟩ = false by unfold okV; simp [*]]
          (refine Gf ?_)
          (apply retQ1; (focus rfl))
          exact ⟨rfl, Bel⟩
      · skip
        by_cases he : s = ⟨#[]⟩
        · skip
          rw [show okV ⟨3, n, f, s⟩ = false by unfold okV; simp [*]]
          (refine Gf ?_)
          (apply retQ1; (focus rfl))
          exact ⟨rfl, Bel⟩
        · skip
          rw [show okV ⟨3, n, f, s⟩ = false by unfold okV; simp [*]]
          (refine Gf ?_)
          (apply retQ1; (focus rfl))
          exact ⟨rfl, Bel⟩
    · skip
      by_cases hn : n = 0
      · skip
        by_cases he : s = ⟨#[]⟩
        · skip
          rw [show okV ⟨3, n, f, s⟩ = true by unfold okV; simp [*]]
          (refine Gf ?_)
          (apply retQ1; (focus rfl))
          exact ⟨rfl, Bel⟩
        · skip
          rw [show okV ⟨3, n, f, s⟩ = false by unfold okV; simp [*]]
          (refine Gf ?_)
          (apply retQ1; (focus rfl))
          exact ⟨rfl, Bel⟩
      · skip
        by_cases he : s = ⟨#[]⟩
        · skip
          rw [show okV ⟨3, n, f, s⟩ = false by unfold okV; simp [*]]
          (refine Gf ?_)
          (apply retQ1; (focus rfl))
          exact ⟨rfl, Bel⟩
        · skip
          rw [show okV ⟨3, n, f, s⟩ = false by unfold okV; simp [*]]
          (refine Gf ?_)
          (apply retQ1; (focus rfl))
          exact ⟨rfl, Bel⟩
  by_cases h4 : k = 4
  · subst h4
    by_cases hz : n = 0 ∧ f = 0 ∧ s.size ≤ 4096
    · obtain ⟨hn, hf, hz⟩ := hz
      have hr := fun A => Utf.r_Check s A (by omega)
      (refine Gf ?_)
      (apply Lst_call; (focus rfl); (focus rfl))
      refine (hr _).mono ?_
      rintro v w1 ⟨rfl, hb1⟩
      have b1 := Sx.Below.after (w := w) Bel hb1
      have s1 := hb1.size
      try simp only [Sx.sizes] at s1
      cases hv : Lib.validD s.data.toList
      · rw [show okV ⟨4, n, f, s⟩ = false by unfold okV; simp [hn, hf, hz, hv]]
        (refine Gf ?_)
        (apply retQ1; (focus rfl))
        exact ⟨rfl, Bel⟩
      · rw [show okV ⟨4, n, f, s⟩ = true by unfold okV; simp [hn, hf, hz, hv]]
        (refine Gf ?_)
        (apply retQ1; (focus rfl))
        exact ⟨rfl, Bel⟩
    · rw [show okV ⟨4, n, f, s⟩ = false by unfold okV; simp; intro a b c; exact absurd ⟨a, b, c⟩ hz]
      by_cases hn : n = 0
      · by_cases hf : f = 0
        · have hz' : ¬ s.size ≤ 4096 := fun h => hz ⟨hn, hf, h⟩
          (refine Gf ?_)
          (apply retQ1; (focus rfl))
          exact ⟨rfl, Bel⟩
        · clear hz
          (refine Gf ?_)
          (apply retQ1; (focus rfl))
          exact ⟨rfl, Bel⟩
      · clear hz
        by_cases hf : f = 0
        · skip
          (refine Gf ?_)
          (apply retQ1; (focus rfl))
          exact ⟨rfl, Bel⟩
        · skip
          (refine Gf ?_)
          (apply retQ1; (focus rfl))
          exact ⟨rfl, Bel⟩
  rw [show okV ⟨k, n, f, s⟩ = false by unfold okV; simp [h0, h1, h2, h3, h4, h5]]
  by_cases hf : f = 0
  · (refine Gf ?_)
    (apply retQ1; (focus rfl))
    exact ⟨rfl, Bel⟩
  · (refine Gf ?_)
    (apply retQ1; (focus rfl))
    exact ⟨rfl, Bel⟩
end Val
end Go.Proofs.YtmgipnckojopcaaGreat
