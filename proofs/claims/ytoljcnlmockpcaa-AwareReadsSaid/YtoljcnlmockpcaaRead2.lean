/- wire.Reader: numbers: what a number's bytes tell, and the walk. -/
import Derived.Test.YtoljcnlmockpcaaRead1
namespace Go.Proofs.Ytoljcnlmockpcaa
set_option maxRecDepth 100000
namespace Wire
open Go Go.RowKit Sx
/-- A number off these bytes: i bytes of it are read, they told n. -/
def rdU (most : Nat) : Nat → Nat → List UInt8 → Option (Nat × List UInt8)
  | _, _, [] => none
  | i, n, x :: l =>
    if i = 9 ∧ 1 < x.toNat then none
    else if 128 ≤ x.toNat then rdU most (i + 1) (n + x.toNat % 128 * 2 ^ (7 * i)) l
    else if x.toNat = 0 ∧ 0 < i then none
    else if most < n + x.toNat % 128 * 2 ^ (7 * i) then none
    else some (n + x.toNat % 128 * 2 ^ (7 * i), l)
theorem and127 (x : Nat) (h : x < 256) : bits .and .u8 (x : Int) 127 = ((x % 128 : Nat) : Int) := by
  have key : ∀ b : Fin 256, b.val &&& 127 = b.val % 128 := by decide
  have h1 : x &&& 127 = x % 128 := key ⟨x, h⟩
  have e := u8_and_nat x 127 (by omega) (by omega)
  have e2 : bits .and .u8 (x : Int) 127 = ((x &&& 127 : Nat) : Int) := e
  rw [e2, h1]
theorem or_add (n m k : Nat) (hn : n < 2 ^ k) (h : n + m * 2 ^ k < 18446744073709551616) : bits .or .u64 (n : Int) ((m * 2 ^ k : Nat) : Int) = ((n + m * 2 ^ k : Nat) : Int) := by
  have h1 : n < 18446744073709551616 := by omega
  have h2 : m * 2 ^ k < 18446744073709551616 := by omega
  generalize hq : m * 2 ^ k = q at *
  have e1 : (BitVec.ofInt 64 (n : Int)).toNat = n := by
    rw [BitVec.toNat_ofInt]; omega
  have e2 : (BitVec.ofInt 64 (q : Int)).toNat = q := by
    rw [BitVec.toNat_ofInt]; omega
  show IntKind.u64.wrap ((BitVec.ofInt 64 (n : Int) ||| BitVec.ofInt 64 (q : Int)).toNat : Int) = _
  rw [BitVec.toNat_or, e1, e2]
  have h3 : n ||| q = n + q := by
    have := Nat.two_pow_add_eq_or_of_lt hn m
    rw [Nat.mul_comm] at hq
    rw [hq] at this
    rw [Nat.or_comm, ← this, Nat.add_comm]
  rw [h3]
  exact wu64 (by omega) (by omega)
theorem acc_lt {i n x : Nat} (hn : n < 2 ^ (7 * i)) : n + x % 128 * 2 ^ (7 * i) < 2 ^ (7 * (i + 1)) := by
  have h : x % 128 ≤ 127 := by omega
  have h2 := Nat.mul_le_mul_right (2 ^ (7 * i)) h
  have h3 : 2 ^ (7 * (i + 1)) = 128 * 2 ^ (7 * i) := by rw [Nat.mul_succ, Nat.pow_add, Nat.mul_comm]
  omega
theorem acc_64 {i n x : Nat} (hi : i ≤ 9) (hx : i = 9 → x ≤ 1) (hn : n < 2 ^ (7 * i)) : n + x % 128 * 2 ^ (7 * i) < 18446744073709551616 := by
  have h := acc_lt (x := x) hn
  rcases Nat.lt_or_ge i 9 with h9 | h9
  · have : 2 ^ (7 * (i + 1)) ≤ 2 ^ 63 := Nat.pow_le_pow_right (by omega) (by omega)
    omega
  · obtain rfl : i = 9 := by omega
    have := hx rfl
    have h63 : (2 : Nat) ^ (7 * 9) = 9223372036854775808 := by decide
    rw [h63] at hn ⊢
    have : x % 128 ≤ 1 := by omega
    have h2 := Nat.mul_le_mul_right 9223372036854775808 this
    omega
theorem shl_at {i x : Nat} (h : x % 128 * 2 ^ (7 * i) < 18446744073709551616) (hi : i ≤ 9) : IntKind.u64.wrap (((x % 128 : Nat) : Int) * 2 ^ (min (((7 : Int) * (i : Int)).toNat) IntKind.u64.bits)) = ((x % 128 * 2 ^ (7 * i) : Nat) : Int) := by
  have e : min (((7 : Int) * (i : Int)).toNat) IntKind.u64.bits = 7 * i := by
    have : IntKind.u64.bits = 64 := rfl
    rw [this]
    omega
  rw [e]
  have e2 : ((x % 128 : Nat) : Int) * 2 ^ (7 * i) = ((x % 128 * 2 ^ (7 * i) : Nat) : Int) := by
    rw [Int.natCast_mul, Int.natCast_pow]
    rfl
  rw [e2]
  exact wu64 (by omega) (by omega)
theorem rndQ_f {α : Type} {vals : α → St} {I : α → World → Prop} {μ : α → World → Nat} {m : Nat} {Q : Post} {ds ds' : List Deferred} {F : Fr} {w : World} {c : List PanicEntry} (h : Q (.panic c) F ds w) : rndQ vals I μ m Q ds' (.panic c) F ds w := h
attribute [local irreducible] W Lst Qst Pu seqQ blkQ rndQ cutQ retQ Does Enters IntKind.wrap bits sb World.alloc World.putObj Blk
set_option maxHeartbeats 2000000 in
theorem c_uint (b most : Nat) (l : List UInt8) (w : World) (h : RdAt w b l 0) :
    Tries Try.prog 62 #[.pointer (some ⟨b, 0, none⟩), .int .u64 (most : Int)] w
      (fun v w' => ∃ n l', rdU most 0 0 l = some (n, l') ∧ n < 18446744073709551616 ∧ v = .int .u64 (n : Int) ∧ RdAt w' b l' 0 ∧ Chg [b] w w')
      (fun v w' => rdU most 0 0 l = none ∧ Bad w b v w') := by
  refine Tries_of (args := [.pointer (some ⟨b, 0, none⟩), .int .u64 (most : Int)]) Try.func62 (by kernel_rfl) rfl rfl rfl rfl rfl ?_
  generalize hG : rdU most 0 0 l = G
  (refine Ga ?_)
  refine W_loop (α := Nat × Nat × List UInt8) (fun x => [(0, .pointer (some ⟨b, 0, none⟩)), (1, .int .u64 (most : Int)), (5, .int .u64 (x.2.1 : Int)), (6, .int .i64 (x.1 : Int))])
    (fun x A => x.1 ≤ 9 ∧ x.2.1 < 2 ^ (7 * x.1) ∧ rdU most x.1 x.2.1 x.2.2 = G ∧ RdAt A b x.2.2 0 ∧ Chg [b] w A) (fun x _ => x.2.2.length) (0, 0, l)
    ⟨Nat.zero_le _, Nat.one_pos, hG, h, Chg.refl _ _⟩ ⟨rfl, rfl, rfl, rfl, trivial⟩ ?_
  clear h hG
  rintro J ⟨i, n, l2⟩ A ⟨hi, hn, hr, hrd, hc⟩
  dsimp only at hi hn hr hrd ⊢
  have hlt := hrd.lt
  (refine Ga ?_)
  apply Lst_callF
  focus rfl
  focus rfl
  refine (c_take b 1 l2 (by omega) A hrd).mono ?_ ?_
  · rintro v A1 ⟨h1, ⟨a, rfl, hv⟩, hrd1, hc1⟩
    cases l2 with
    | nil => simp at h1
    | cons x l3 =>
    have hcc := hc.trans hc1
    obtain ⟨g, off, hg, hcell⟩ := Sx.Ints.at hv (j := 0) (by omega)
    subst hg
    have hx : (nums ((x :: l3).take 1)).getD 0 0 = (x.toNat : Int) := rfl
    rw [hx] at hcell
    have hx256 := UInt8.toNat_lt x
    have hrd1 : RdAt A1 b l3 0 := hrd1
    unfold rdU at hr
    generalize hX : x.toNat = X at *
    have hl3 : l3.length < (x :: l3).length := Nat.lt_succ_self _
    clear h1 hv hrd hc hc1
    (refine Ga ?_)
    apply Lst_pu
    · apply P_idx
      focus rfl
      focus rfl
      focus rfl
      focus rfl
      focus rfl
      focus omega
      focus omega
    focus rfl
    rcases (by omega : (i = 9 ∧ 1 < X) ∨ (i = 9 ∧ X ≤ 1) ∨ i ≠ 9) with ⟨h9, hX1⟩ | ⟨h9, hX1⟩ | h9
    · rw [if_pos ⟨h9, hX1⟩] at hr
      (refine Ga ?_)
      apply Lst_callF
      focus rfl
      focus rfl
      refine (c_Fail 11 (by decide) _).mono (fun v w' h => h.elim) ?_
      rintro v w' ⟨rfl, rfl⟩
      repeat (first | apply seqQ_f | apply blkQ_f | apply rndQ_f)
      obtain ⟨a3, c3, hb3, _, _⟩ := hrd1
      exact retF_p ⟨hr.symm, ⟨_, rfl, by decide⟩, hcc, _, _, _, hb3⟩
    all_goals
      rw [if_neg (by omega)] at hr
      have h64 := acc_64 (x := X) hi (by omega) hn
      have hac := acc_lt (x := X) hn
      have hsh := shl_at (x := X) (i := i) (by omega) hi
      have hor := or_add n (X % 128) (7 * i) hn h64
      generalize X % 128 * 2 ^ (7 * i) = M at *
      (refine Ga ?_)
      rw [and127 X hx256, wu64 (m := ((X % 128 : Nat) : Int)) (by omega) (by omega)]
      apply Lst_pu
      · apply P_shl
        focus rfl
        focus rfl
        focus omega
        focus exact hsh
      focus rfl
      rcases Nat.lt_or_ge X 128 with h128 | h128
      · rw [if_neg (by omega)] at hr
        by_cases h0 : X = 0 ∧ 0 < i
        · obtain ⟨hX0, hi0⟩ := h0
          rw [if_pos ⟨hX0, hi0⟩] at hr
          (refine Ga ?_)
          apply Lst_callF
          focus rfl
          focus rfl
          refine (c_Fail 11 (by decide) _).mono (fun v w' h => h.elim) ?_
          rintro v w' ⟨rfl, rfl⟩
          repeat (first | apply seqQ_f | apply blkQ_f | apply rndQ_f)
          obtain ⟨a3, c3, hb3, _, _⟩ := hrd1
          exact retF_p ⟨hr.symm, ⟨_, rfl, by decide⟩, hcc, _, _, _, hb3⟩
        rw [if_neg h0] at hr
        rcases (by omega : (X = 0 ∧ i = 0) ∨ X ≠ 0) with ⟨hX0, hi0⟩ | hX0
        all_goals first | (exfalso; omega; done) | skip
        all_goals
          by_cases hmo : most < n + M
          · rw [if_pos hmo] at hr
            (refine Ga ?_)
            apply Lst_callF
            focus rfl
            focus rfl
            refine (c_Fail 12 (by decide) _).mono (fun v w' h => h.elim) ?_
            rintro v w' ⟨rfl, rfl⟩
            repeat (first | apply seqQ_f | apply blkQ_f | apply rndQ_f)
            obtain ⟨a3, c3, hb3, _, _⟩ := hrd1
            exact retF_p ⟨hr.symm, ⟨_, rfl, by decide⟩, hcc, _, _, _, hb3⟩
          · rw [if_neg hmo] at hr
            (refine Ga ?_)
            apply retF_r
            (apply retQ1; (focus rfl))
            exact ⟨n + M, l3, hr.symm, h64, rfl, hrd1, hcc⟩
      · first | (exfalso; omega; done) | skip
        all_goals
          rw [if_pos h128] at hr
          (refine Ga ?_)
          refine rndQ_n (α := Nat × Nat × List UInt8) (i + 1, n + M, l3) ⟨by dsimp only; omega, hac, hr, hrd1, hcc⟩ ⟨rfl, rfl, rfl, ?_, trivial⟩ hl3
          show Value.int .i64 ((i : Int) + 1) = Value.int .i64 ((i + 1 : Nat) : Int)
          rw [Int.natCast_add]
          rfl
  · rintro v A1 ⟨h1, hbad⟩
    repeat (first | apply seqQ_f | apply blkQ_f | apply rndQ_f)
    obtain rfl : l2 = [] := List.length_eq_zero_iff.1 (by omega)
    refine retF_p ⟨hr.symm.trans rfl, hbad.1, hc.trans hbad.2.1, hbad.2.2⟩
end Wire
end Go.Proofs.Ytoljcnlmockpcaa
