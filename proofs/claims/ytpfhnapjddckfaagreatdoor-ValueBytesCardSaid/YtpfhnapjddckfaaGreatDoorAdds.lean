/- ValueAdds, ValueCheck: the walks of the laws. -/
import Derived.Test.YtpfhnapjddckfaaGreatDoorOrder
import Derived.Test.YtpfhnapjddckfaaGreatDoorVal7
namespace Go.Proofs.YtpfhnapjddckfaaGreatDoor
set_option maxRecDepth 100000
namespace Val
open Go Go.RowKit Sx Fl Hex
theorem sumF_comm (p q : Nat) : sumF p q = sumF q p := by unfold sumF; rw [add_comm]
theorem addV_comm (x y : Vl) : addV x y = addV y x := by
  unfold addV
  by_cases h : x.k = 2 ∧ y.k = 2
  · rw [if_pos h, if_pos ⟨h.2, h.1⟩, Int.add_comm]
  · rw [if_neg h, if_neg (fun e => h ⟨e.2, e.1⟩)]
    cases numV x <;> cases numV y
    · rfl
    · rfl
    · rfl
    · dsimp only
      rw [sumF_comm]
theorem addV_ok (x y : Vl) : okV (addV x y) = true := by
  unfold addV
  split
  · rfl
  · cases numV x <;> cases numV y <;> first | rfl | (unfold okV; simp)
theorem cleanV_ok {x : Vl} (h : okV x = true) (hn : ¬ (x.k = 3 ∧ isNaN x.f = true)) : cleanV x = x := by
  obtain ⟨k, n, f, s⟩ := x
  unfold cleanV nbits
  dsimp only at hn ⊢
  by_cases hf : isNaN f = true
  · exfalso
    have h0 : ¬ f = 0 := fun e => by subst e; exact absurd hf (by decide)
    have h3 : ¬ k = 3 := fun e => hn ⟨e, hf⟩
    unfold okV at h
    simp [h0, h3] at h
  · rw [if_neg hf]
attribute [local irreducible] W Lst Qst Pu seqQ blkQ rndQ cutQ retQ Does Enters IntKind.wrap bits sb World.alloc World.putObj Blk
theorem c_bits (x : Vl) (w : World) : Does Tryz.prog 16 #[x.v, x.v] w fun v w' => v = .bool true ∧ Below w.heap.size w w' := by
  obtain ⟨k, n, f, s⟩ := x
  refine Does_of (args := [.agg #[.int .i64 k, .int .i64 n, .float .f64 f, .string s], .agg #[.int .i64 k, .int .i64 n, .float .f64 f, .string s]]) Tryz.func16 (by kernel_rfl) rfl rfl rfl rfl rfl ?_
  (refine Ga ?_)
  refine W_draws (Grown _) rfl (by kernel_rfl) (grown_start _) ?_
  (refine Qb ?_)
  intro w9 hb9
  have b9 := Sx.Below.after (w := w) Bel hb9
  have s9 := hb9.size
  try simp only [Sx.sizes] at s9
  (refine Ga ?_)
  (apply retQ1; (focus rfl))
  exact ⟨rfl, Bel⟩
end Val
end Go.Proofs.YtpfhnapjddckfaaGreatDoor
