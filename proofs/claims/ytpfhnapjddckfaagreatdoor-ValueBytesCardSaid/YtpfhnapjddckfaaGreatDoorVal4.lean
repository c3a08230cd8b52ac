/- The walks of package value: sums. -/
import Derived.Test.YtpfhnapjddckfaaGreatDoorVal3
namespace Go.Proofs.YtpfhnapjddckfaaGreatDoor
set_option maxRecDepth 100000
namespace Val
open Go Go.RowKit Sx Fl
attribute [local irreducible] W Lst Qst Pu seqQ blkQ rndQ cutQ retQ Does Enters IntKind.wrap bits sb World.alloc World.putObj Blk
theorem c_Add (x y : Vl) (w : World) : Does Tryz.prog 20 #[x.v, y.v] w fun v w' => v = (addV x y).v ∧ Below w.heap.size w w' := by
  obtain ⟨k, n, f, s⟩ := x
  obtain ⟨k', n', f', s'⟩ := y
  refine Does_of (args := [.agg #[.int .i64 k, .int .i64 n, .float .f64 f, .string s], .agg #[.int .i64 k', .int .i64 n', .float .f64 f', .string s']]) Tryz.func20 (by kernel_rfl) rfl rfl rfl rfl rfl ?_
  unfold addV
  by_cases h : k = 2 ∧ k' = 2
  · rw [if_pos h]
    obtain ⟨rfl, rfl⟩ := h
    (refine Gf ?_)
    (refine Reta ?_)
    exact ⟨rfl, Bel⟩
  · rw [if_neg h]
    by_cases h2 : k = 2
    · have h2' : ¬ k' = 2 := fun e => h ⟨h2, e⟩
      subst h2
      (refine Gf ?_)
      (apply Lst_call; (focus rfl); (focus rfl))
      refine (c_tofloat ⟨2, n, f, s⟩ _).mono ?_
      rintro v w1 ⟨rfl, hb1⟩
      have b1 := Sx.Below.after (w := w) Bel hb1
      have s1 := hb1.size
      try simp only [Sx.sizes] at s1
      (refine Gf ?_)
      (apply Lst_call; (focus rfl); (focus rfl))
      refine (c_tofloat ⟨k', n', f', s'⟩ _).mono ?_
      rintro v w2 ⟨rfl, hb2⟩
      have b2 := Sx.Below.after (w := w) Bel hb2
      have s2 := hb2.size
      try simp only [Sx.sizes] at s2
      cases e1 : numV ⟨2, n, f, s⟩ with
      | none =>
        (refine Gf ?_)
        (refine Reta ?_)
        exact ⟨rfl, Bel⟩
      | some p =>
        cases e2 : numV ⟨k', n', f', s'⟩ with
        | none =>
          (refine Gf ?_)
          (refine Reta ?_)
          exact ⟨rfl, Bel⟩
        | some q =>
          dsimp only [Option.isSome_some, Option.getD_some]
          cases e3 : Ieee.double.add p q with
          | some r =>
            rw [sumF_some e3]
            (refine Gf ?_)
            (apply Lst_call; (focus rfl); (focus rfl))
            refine (c_Clean ⟨3, 0, r, ⟨#[]⟩⟩ _).mono ?_
            rintro v w3 ⟨rfl, hb3⟩
            have b3 := Sx.Below.after (w := w) Bel hb3
            have s3 := hb3.size
            try simp only [Sx.sizes] at s3
            (refine Gf ?_)
            (refine Reta ?_)
            exact ⟨rfl, Bel⟩
          | none =>
            rw [sumF_none e3]
            (refine Gf ?_)
            apply Lst_fadd_nan
            focus rfl
            focus rfl
            focus exact e3
            focus rfl
            intro r hr _
            (refine Gf ?_)
            (apply Lst_call; (focus rfl); (focus rfl))
            refine (c_Clean ⟨3, 0, r, ⟨#[]⟩⟩ _).mono ?_
            rintro v w3 ⟨rfl, hb3⟩
            have b3 := Sx.Below.after (w := w) Bel hb3
            have s3 := hb3.size
            try simp only [Sx.sizes] at s3
            (refine Gf ?_)
            (refine Reta ?_)
            refine ⟨?_, Bel⟩
            unfold cleanV
            rw [nbits_nan hr]
            rfl
    · clear h
      (refine Gf ?_)
      (apply Lst_call; (focus rfl); (focus rfl))
      refine (c_tofloat ⟨k, n, f, s⟩ _).mono ?_
      rintro v w1 ⟨rfl, hb1⟩
      have b1 := Sx.Below.after (w := w) Bel hb1
      have s1 := hb1.size
      try simp only [Sx.sizes] at s1
      (refine Gf ?_)
      (apply Lst_call; (focus rfl); (focus rfl))
      refine (c_tofloat ⟨k', n', f', s'⟩ _).mono ?_
      rintro v w2 ⟨rfl, hb2⟩
      have b2 := Sx.Below.after (w := w) Bel hb2
      have s2 := hb2.size
      try simp only [Sx.sizes] at s2
      cases e1 : numV ⟨k, n, f, s⟩ with
      | none =>
        (refine Gf ?_)
        (refine Reta ?_)
        exact ⟨rfl, Bel⟩
      | some p =>
        cases e2 : numV ⟨k', n', f', s'⟩ with
        | none =>
          (refine Gf ?_)
          (refine Reta ?_)
          exact ⟨rfl, Bel⟩
        | some q =>
          dsimp only [Option.isSome_some, Option.getD_some]
          cases e3 : Ieee.double.add p q with
          | some r =>
            rw [sumF_some e3]
            (refine Gf ?_)
            (apply Lst_call; (focus rfl); (focus rfl))
            refine (c_Clean ⟨3, 0, r, ⟨#[]⟩⟩ _).mono ?_
            rintro v w3 ⟨rfl, hb3⟩
            have b3 := Sx.Below.after (w := w) Bel hb3
            have s3 := hb3.size
            try simp only [Sx.sizes] at s3
            (refine Gf ?_)
            (refine Reta ?_)
            exact ⟨rfl, Bel⟩
          | none =>
            rw [sumF_none e3]
            (refine Gf ?_)
            apply Lst_fadd_nan
            focus rfl
            focus rfl
            focus exact e3
            focus rfl
            intro r hr _
            (refine Gf ?_)
            (apply Lst_call; (focus rfl); (focus rfl))
            refine (c_Clean ⟨3, 0, r, ⟨#[]⟩⟩ _).mono ?_
            rintro v w3 ⟨rfl, hb3⟩
            have b3 := Sx.Below.after (w := w) Bel hb3
            have s3 := hb3.size
            try simp only [Sx.sizes] at s3
            (refine Gf ?_)
            (refine Reta ?_)
            refine ⟨?_, Bel⟩
            unfold cleanV
            rw [nbits_nan hr]
            rfl
end Val
end Go.Proofs.YtpfhnapjddckfaaGreatDoor
