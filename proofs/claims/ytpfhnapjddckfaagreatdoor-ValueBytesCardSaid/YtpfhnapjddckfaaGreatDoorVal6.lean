/- The walks of package quireref2: the document's values. -/
import Derived.Test.YtpfhnapjddckfaaGreatDoorVal5
namespace Go.Proofs.YtpfhnapjddckfaaGreatDoor
set_option maxRecDepth 100000
namespace Val
open Go Go.RowKit Sx Fl
theorem and_top (f : Nat) (h1 : 9223372036854775808 ≤ f) (h2 : f < 18446744073709551616) : bits .and .i64 ((f : Int) - 18446744073709551616) 9223372036854775807 = (rung f : Int) := by
  have e1 : (BitVec.ofInt 64 ((f : Int) - 18446744073709551616)).toNat = f := by
    rw [BitVec.toNat_ofInt]; omega
  have e2 : (BitVec.ofInt 64 9223372036854775807).toNat = 2 ^ 63 - 1 := by decide
  show IntKind.i64.wrap ((BitVec.ofInt 64 ((f : Int) - 18446744073709551616) &&& BitVec.ofInt 64 9223372036854775807).toNat : Int) = _
  rw [BitVec.toNat_and, e1, e2, Nat.and_two_pow_sub_one_eq_mod]
  unfold rung
  have : f % 2 ^ 63 < 9223372036854775808 := Nat.mod_lt _ (by omega)
  rw [show (2 : Nat) ^ 63 = 9223372036854775808 by rfl]
  simp [IntKind.wrap, IntKind.signed, IntKind.bits]
  omega
attribute [local irreducible] W Lst Qst Pu seqQ blkQ rndQ cutQ retQ Does Enters IntKind.wrap bits sb World.alloc World.putObj Blk
theorem r_Bits (f : Nat) (w : World) : Does Tryz.prog 37 #[.float .f64 f] w fun v w' => v = .int .u64 (nbits f) ∧ w = w' := by
  refine Does_of (args := [.float .f64 f]) Tryz.func37 (by kernel_rfl) rfl rfl rfl rfl rfl ?_
  unfold nbits
  cases h : isNaN f
  · have ho := ord_self h
    (refine Gf ?_)
    (apply retQ1; (focus rfl))
    exact ⟨rfl, rfl⟩
  · have ho := ord_self_nan h
    (refine Gf ?_)
    (apply retQ1; (focus rfl))
    exact ⟨rfl, rfl⟩
theorem r_Clean (x : Vl) (w : World) : Does Tryz.prog 17 #[x.v] w fun v w' => v = (if x.k = 3 then cleanV x else x).v ∧ Below w.heap.size w w' := by
  obtain ⟨k, n, f, s⟩ := x
  refine Does_of (args := [.agg #[.int .i64 k, .int .i64 n, .float .f64 f, .string s]]) Tryz.func17 (by kernel_rfl) rfl rfl rfl rfl rfl ?_
  dsimp only
  by_cases h3 : k = 3
  · subst h3
    rw [if_pos rfl]
    (refine Gf ?_)
    (apply Lst_call; (focus rfl); (focus rfl))
    refine (r_Bits f _).mono ?_
    rintro v w' ⟨rfl, rfl⟩
    (refine Gf ?_)
    (refine Reta ?_)
    exact ⟨rfl, Bel⟩
  · rw [if_neg h3]
    (refine Gf ?_)
    (refine Reta ?_)
    exact ⟨rfl, Bel⟩
theorem cmpS_cases (s t : ByteArray) : cmpS s t = -1 ∨ cmpS s t = 0 ∨ cmpS s t = 1 := by
  unfold cmpS
  generalize s.data.toList = a
  generalize t.data.toList = b
  induction a generalizing b with
  | nil => cases b <;> simp [Lib.compareBytes]
  | cons x a ih =>
    cases b with
    | nil => simp [Lib.compareBytes]
    | cons y b =>
      unfold Lib.compareBytes
      split
      · simp
      · split
        · simp
        · exact ih b
end Val
end Go.Proofs.YtpfhnapjddckfaaGreatDoor
