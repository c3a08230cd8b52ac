/- Sorting of []uint64: pdqsortOrdered; slices.Sorted(maps.Keys(m)). -/
import Derived.Test.YtoljcnlmockpcaaSoA
import Derived.Sort.Lot0
import Derived.Test.YtoljcnlmockpcaaSoB
import Derived.Test.YtoljcnlmockpcaaSxM
import Derived.Test.YtoljcnlmockpcaaSxC
namespace Go.Proofs.Ytoljcnlmockpcaa
set_option maxRecDepth 100000
namespace So
open Go Go.RowKit Sx
open Go.Sort (swp ltInt)
theorem u64_range (z : Int) : 0 ≤ IntKind.u64.wrap z ∧ IntKind.u64.wrap z < 18446744073709551616 := by
  unfold IntKind.wrap
  simp [IntKind.bits, IntKind.signed]
  omega
theorem bits_range (op : BinOp) (x y : Int) : 0 ≤ bits op .u64 x y ∧ bits op .u64 x y < 18446744073709551616 := u64_range _
attribute [local irreducible] W Lst Qst Pu seqQ blkQ rndQ cutQ retQ Does Enters IntKind.wrap bits sb World.alloc World.putObj Blk
theorem c_Next (rb : Nat) (z : Int) (w : World) (hb : Blk w rb [.int .u64 z] 132) :
    Does Try.prog 90 #[.pointer (some ⟨rb, 0, none⟩)] w fun v w' => (∃ z' : Int, v = .int .u64 z' ∧ (0 ≤ z' ∧ z' < 18446744073709551616) ∧ Blk w' rb [.int .u64 z'] 132) ∧ Chg [rb] w w' := by
  refine Does_of (args := [.pointer (some ⟨rb, 0, none⟩)]) Try.func90 (by kernel_rfl) rfl rfl rfl rfl rfl ?_
  have hc : Chg [rb] w w := Chg.refl _ _
  (refine Ga ?_)
  have hbd := Blk.drew hb
  have hlt := hbd.lt
  have hcd := hc.drew
  refine W_draw 9 (fun A' => A' = World.drew w) rfl (by kernel_rfl) rfl ?_
  (refine Qa ?_)
  apply Qst_pu
  · apply P_shl
    focus rfl
    focus rfl
    focus omega
    focus rfl
  focus rfl
  apply Qst_pu
  · apply P_xor
    focus rfl
    focus rfl
    focus rfl
  focus rfl
  (refine Qa ?_)
  rintro A' rfl
  clear hb hc
  generalize World.drew w = A at *
  (refine Ga ?_)
  have hrz := bits_range .xor z (IntKind.u64.wrap (z * 2 ^ (min (13 : Int).toNat IntKind.u64.bits)))
  generalize bits .xor .u64 z (IntKind.u64.wrap (z * 2 ^ (min (13 : Int).toNat IntKind.u64.bits))) = z1 at *
  have hc := hcd.put (b := rb) (by simp) (.cells [.int .u64 z1].toArray 132)
  have hb : Blk (A.putObj rb (.cells [.int .u64 z1].toArray 132)) rb [.int .u64 z1] 132 := Blk.put_same hlt _ _
  clear hcd hlt hbd
  generalize A.putObj rb (.cells [.int .u64 z1].toArray 132) = w1 at *
  have hbd := Blk.drew hb
  have hlt := hbd.lt
  have hcd := hc.drew
  refine W_draw 9 (fun A' => A' = World.drew w1) rfl (by kernel_rfl) rfl ?_
  (refine Qa ?_)
  apply Qst_pu
  · apply P_shr
    focus rfl
    focus rfl
    focus omega
    focus rfl
  focus rfl
  apply Qst_pu
  · apply P_xor
    focus rfl
    focus rfl
    focus rfl
  focus rfl
  (refine Qa ?_)
  rintro A' rfl
  clear hb hc
  generalize World.drew w1 = A at *
  (refine Ga ?_)
  have hrz := bits_range .xor z1 (z1.fdiv (2 ^ (min (7 : Int).toNat IntKind.u64.bits)))
  generalize bits .xor .u64 z1 (z1.fdiv (2 ^ (min (7 : Int).toNat IntKind.u64.bits))) = z2 at *
  have hc := hcd.put (b := rb) (by simp) (.cells [.int .u64 z2].toArray 132)
  have hb : Blk (A.putObj rb (.cells [.int .u64 z2].toArray 132)) rb [.int .u64 z2] 132 := Blk.put_same hlt _ _
  clear hcd hlt hbd
  generalize A.putObj rb (.cells [.int .u64 z2].toArray 132) = w2 at *
  have hbd := Blk.drew hb
  have hlt := hbd.lt
  have hcd := hc.drew
  refine W_draw 9 (fun A' => A' = World.drew w2) rfl (by kernel_rfl) rfl ?_
  (refine Qa ?_)
  apply Qst_pu
  · apply P_shl
    focus rfl
    focus rfl
    focus omega
    focus rfl
  focus rfl
  apply Qst_pu
  · apply P_xor
    focus rfl
    focus rfl
    focus rfl
  focus rfl
  (refine Qa ?_)
  rintro A' rfl
  clear hb hc
  generalize World.drew w2 = A at *
  (refine Ga ?_)
  have hrz := bits_range .xor z2 (IntKind.u64.wrap (z2 * 2 ^ (min (17 : Int).toNat IntKind.u64.bits)))
  generalize bits .xor .u64 z2 (IntKind.u64.wrap (z2 * 2 ^ (min (17 : Int).toNat IntKind.u64.bits))) = z3 at *
  have hc := hcd.put (b := rb) (by simp) (.cells [.int .u64 z3].toArray 132)
  have hb : Blk (A.putObj rb (.cells [.int .u64 z3].toArray 132)) rb [.int .u64 z3] 132 := Blk.put_same hlt _ _
  clear hcd hlt hbd
  generalize A.putObj rb (.cells [.int .u64 z3].toArray 132) = w3 at *
  have hlt := hb.lt
  (refine Ga ?_)
  (apply retQ1; (focus rfl))
  exact ⟨⟨z3, rfl, hrz, hb⟩, hc⟩
def len8T : ByteArray := ⟨((([0, 1, 2, 2, 3, 3, 3, 3, 4, 4, 4, 4, 4, 4, 4, 4, 5, 5, 5, 5, 5, 5, 5, 5, 5, 5, 5, 5, 5, 5, 5, 5, 6, 6, 6, 6, 6, 6, 6, 6, 6, 6, 6, 6, 6, 6, 6, 6, 6, 6, 6, 6, 6, 6, 6, 6, 6, 6, 6, 6, 6, 6, 6, 6] : List UInt8) ++ List.replicate 64 7) ++ List.replicate 128 8).toArray⟩
theorem len8_spec (y : Nat) (h1 : 1 ≤ y) (h : y < 256) : ∃ t : Nat, sb len8T y = (t : Int) ∧ t ≤ 8 ∧ y < 2 ^ t ∧ 2 ^ t ≤ 2 * y := by
  have key : ∀ y : Fin 256, 1 ≤ y.val → (sb len8T y.val).toNat ≤ 8 ∧ y.val < 2 ^ (sb len8T y.val).toNat ∧ 2 ^ (sb len8T y.val).toNat ≤ 2 * y.val := by decide +kernel
  obtain ⟨a, b, c⟩ := key ⟨y, h⟩ h1
  exact ⟨(sb len8T y).toNat, (Int.toNat_of_nonneg (sb_lo _ _)).symm, a, b, c⟩
theorem len_step {n s t y : Nat} (hy : y = n / 2 ^ s) (h1 : y < 2 ^ t) (h2 : 2 ^ t ≤ 2 * y) : n < 2 ^ (s + t) ∧ 2 ^ (s + t) ≤ 2 * n := by
  subst hy
  have hp : 0 < 2 ^ s := Nat.two_pow_pos s
  have hm := Nat.div_mul_le_self n (2 ^ s)
  have hd := Nat.div_add_mod n (2 ^ s)
  have hr := Nat.mod_lt n hp
  rw [Nat.pow_add]
  constructor
  · have : (n / 2 ^ s + 1) * 2 ^ s ≤ 2 ^ t * 2 ^ s := Nat.mul_le_mul_right _ h1
    rw [Nat.add_mul, Nat.one_mul, Nat.mul_comm (n / 2 ^ s)] at this
    rw [Nat.mul_comm (2 ^ s)]
    omega
  · have : 2 ^ t * 2 ^ s ≤ 2 * (n / 2 ^ s) * 2 ^ s := Nat.mul_le_mul_right _ h2
    rw [Nat.mul_assoc] at this
    rw [Nat.mul_comm (2 ^ s)]
    omega
theorem c_Len64 (n : Nat) (h1 : 1 ≤ n) (h2 : n < 4611686018427387904) (w : World) :
    Does Try.prog 87 #[.int .u64 (n : Int)] w fun v w' => (∃ r : Nat, v = .int .i64 (r : Int) ∧ n < 2 ^ r ∧ 2 ^ r ≤ 2 * n) ∧ w = w' := by
  refine Does_of (args := [.int .u64 (n : Int)]) Try.func87 (by kernel_rfl) rfl rfl rfl rfl rfl ?_
  refine W_seq ?_
  (repeat' (first | (apply W_region) | (apply W_block) | (apply W_skip) | (apply W_ret) | (apply W_exit) | (apply W_cond_t; (focus rfl)) | (apply W_cond_f; (focus rfl)) | (apply Lst_nil) | (apply seqQ_n) | (apply seqQ_r) | (apply seqQ_e) | (apply blkQ_n) | (apply blkQ_r) | (apply blkQ_e) | (apply blkQ_o; (focus rfl)) | (apply rndQ_r) | (apply rndQ_e) | (apply cutQ_r) | (apply cutQ_e) | (apply Lst_guard_t; (focus rfl); (focus rfl)) | (apply Lst_guard_f; (focus rfl); (focus rfl); (focus rfl); (focus rfl)) | (apply Lst_guard_u; (focus rfl); (focus rfl); (focus rfl)) | (apply Lst_rangeS; (focus rfl); (focus rfl); (focus ((try simp only [Sx.sizes]); first | done | rfl)); (focus rfl)) | (apply Lst_alloc; (focus rfl); (focus rfl); (focus rfl); (focus ((try simp only [Sx.sizes]); first | done | rfl)); (focus rfl)) | (apply Lst_box; (focus constructor); (focus rfl); (focus ((try simp only [Sx.sizes]); first | done | rfl)); (focus rfl)) | (apply Lst_load; (focus rfl); (focus rfl); (focus rfl); (focus ((repeat (first | assumption | (apply Blk.below (hb := hb1); rotate_left; (focus ((try simp only [Sx.sizes]); omega)); rotate_right) | (apply Blk.below (hb := hb2); rotate_left; (focus ((try simp only [Sx.sizes]); omega)); rotate_right) | (apply Blk.below (hb := hb3); rotate_left; (focus ((try simp only [Sx.sizes]); omega)); rotate_right) | (apply Blk.below (hb := hb4); rotate_left; (focus ((try simp only [Sx.sizes]); omega)); rotate_right) | (apply Blk.below (hb := hb5); rotate_left; (focus ((try simp only [Sx.sizes]); omega)); rotate_right) | (apply Blk.below (hb := hb6); rotate_left; (focus ((try simp only [Sx.sizes]); omega)); rotate_right) | (apply Blk.below (hb := hb7); rotate_left; (focus ((try simp only [Sx.sizes]); omega)); rotate_right) | (apply Blk.below (hb := hb8); rotate_left; (focus ((try simp only [Sx.sizes]); omega)); rotate_right) | (apply Blk.below (hb := hb9); rotate_left; (focus ((try simp only [Sx.sizes]); omega)); rotate_right) | exact Blk.newE (by first | rfl | ((try simp only [Sx.sizes]); first | done | omega)) _ _ | exact Blk.put_same (by (try simp only [Sx.sizes]); first | done | omega) _ _ | (apply Blk.put_ne; (focus omega)) | apply Blk.alloc | apply Blk.drew)); done)); (focus rfl); (focus rfl)) | (apply Lst_loadc; (focus rfl); (focus rfl); (focus rfl); (focus assumption); (focus rfl)) | (apply Lst_store; (focus rfl); (focus constructor); (focus rfl); (focus rfl); (focus rfl); (focus rfl); (focus ((repeat (first | assumption | (apply Blk.below (hb := hb1); rotate_left; (focus ((try simp only [Sx.sizes]); omega)); rotate_right) | (apply Blk.below (hb := hb2); rotate_left; (focus ((try simp only [Sx.sizes]); omega)); rotate_right) | (apply Blk.below (hb := hb3); rotate_left; (focus ((try simp only [Sx.sizes]); omega)); rotate_right) | (apply Blk.below (hb := hb4); rotate_left; (focus ((try simp only [Sx.sizes]); omega)); rotate_right) | (apply Blk.below (hb := hb5); rotate_left; (focus ((try simp only [Sx.sizes]); omega)); rotate_right) | (apply Blk.below (hb := hb6); rotate_left; (focus ((try simp only [Sx.sizes]); omega)); rotate_right) | (apply Blk.below (hb := hb7); rotate_left; (focus ((try simp only [Sx.sizes]); omega)); rotate_right) | (apply Blk.below (hb := hb8); rotate_left; (focus ((try simp only [Sx.sizes]); omega)); rotate_right) | (apply Blk.below (hb := hb9); rotate_left; (focus ((try simp only [Sx.sizes]); omega)); rotate_right) | exact Blk.newE (by first | rfl | ((try simp only [Sx.sizes]); first | done | omega)) _ _ | exact Blk.put_same (by (try simp only [Sx.sizes]); first | done | omega) _ _ | (apply Blk.put_ne; (focus omega)) | apply Blk.alloc | apply Blk.drew)); done)); (focus ((repeat constructor); done))) | (apply Lst_pu; (focus (first | (apply P_neg; (focus rfl); (focus (first | assumption | exact wi64 (by omega) (by omega) | exact wu64 (by omega) (by omega) | exact wi32 (by omega) (by omega) | exact wu8 (by omega) (by omega) | rfl))) | (apply P_move; (focus constructor)) | (apply P_assign; (focus constructor)) | (apply P_ar; (focus rfl); (focus rfl); (focus rfl); (focus (first | assumption | exact wi64 (by omega) (by omega) | exact wu64 (by omega) (by omega) | exact wi32 (by omega) (by omega) | exact wu8 (by omega) (by omega) | rfl))) | (apply P_ct; (focus rfl); (focus rfl); (focus rfl); (focus (dsimp only [cmpP]; first | done | omega))) | (apply P_cf; (focus rfl); (focus rfl); (focus rfl); (focus (dsimp only [cmpP]; first | done | omega))) | (apply P_pick_t; (focus rfl); (focus constructor)) | (apply P_pick_f; (focus rfl); (focus constructor)) | (apply P_extract; (focus rfl); (focus rfl)) | (apply P_not; (focus rfl); (focus rfl)) | (apply P_slen; (focus rfl); (focus rfl)) | (apply P_llen; (focus rfl); (focus rfl)) | (apply P_beq; (focus rfl); (focus rfl); (focus rfl); (focus (first | exact beq_self_eq_true _ | rfl))) | (apply P_bne; (focus rfl); (focus rfl); (focus rfl); (focus (first | exact bne_self_eq_false _ | rfl))) | (apply P_sadd; (focus rfl); (focus rfl); (focus omega)) | (apply P_max; (focus rfl); (focus rfl)) | (apply P_min; (focus rfl); (focus rfl)) | (apply P_idx1; (focus rfl); (focus rfl); (focus rfl); (focus rfl); (focus rfl); (focus omega)) | (apply P_nilCheck; (focus rfl)) | (apply P_conv; (focus rfl); (focus rfl); (focus rfl); (focus (first | assumption | exact wi64 (by omega) (by omega) | exact wu64 (by omega) (by omega) | exact wi32 (by omega) (by omega) | exact wu8 (by omega) (by omega) | rfl))) | (apply P_sindex0; (focus rfl); (focus rfl); (focus rfl); (focus omega)) | (apply P_sindexN; (focus rfl); (focus rfl); (focus rfl); (focus omega)) | (apply P_sindex; (focus rfl); (focus rfl); (focus rfl); (focus omega); (focus omega)) | (apply P_makeFunc; (focus (repeat constructor)); (focus (repeat constructor))) | (apply P_seq_t; (focus rfl); (focus rfl); (focus (first | assumption | rfl))) | (apply P_seq_f; (focus rfl); (focus rfl); (focus assumption)) | (apply P_sne_t; (focus rfl); (focus rfl); (focus assumption)) | (apply P_sne_f; (focus rfl); (focus rfl); (focus (first | assumption | rfl))))); (focus rfl))))
  refine W_cut (α := Nat × Nat) (fun x => [(0, .int .u64 (x.1 : Int)), (2, .int .i64 (x.2 : Int))]) (fun x A => (x.1 = n / 2 ^ x.2 ∧ 1 ≤ x.1 ∧ x.1 < 4294967296 ∧ x.2 ≤ 32) ∧ w = A) ?_ ?_
  · by_cases h : 4294967296 ≤ n
    · (refine Ga ?_)
      exact cutQ_n (n / 4294967296, 32) ⟨⟨rfl, by dsimp only; omega, by dsimp only; omega, by dsimp only; omega⟩, rfl⟩ ⟨rfl, rfl, trivial⟩
    · (refine Ga ?_)
      exact cutQ_n (n, 0) ⟨⟨by simp, h1, by dsimp only; omega, by dsimp only; omega⟩, rfl⟩ ⟨rfl, rfl, trivial⟩
  rintro J1 ⟨x1, s1⟩ A1 ⟨⟨hx1, hx1p, hx1l, hs1⟩, rfl⟩
  dsimp only at hx1 hx1p hx1l hs1 ⊢
  refine W_cut (α := Nat × Nat) (fun x => [(0, .int .u64 (x.1 : Int)), (2, .int .i64 (x.2 : Int))]) (fun x A => (x.1 = n / 2 ^ x.2 ∧ 1 ≤ x.1 ∧ x.1 < 65536 ∧ x.2 ≤ 48) ∧ w = A) ?_ ?_
  · by_cases h : 65536 ≤ x1
    · (refine Ga ?_)
      refine cutQ_n (x1 / 65536, s1 + 16) ⟨⟨?_, by dsimp only; omega, by dsimp only; omega, by dsimp only; omega⟩, rfl⟩ ⟨rfl, ?_, trivial⟩
      · dsimp only
        rw [hx1, Nat.div_div_eq_div_mul, Nat.pow_add]
      · show Value.int .i64 ((s1 : Int) + 16) = Value.int .i64 ((s1 + 16 : Nat) : Int)
        rw [Int.natCast_add]; rfl
    · (refine Ga ?_)
      exact cutQ_n (x1, s1) ⟨⟨hx1, hx1p, by dsimp only; omega, by dsimp only; omega⟩, rfl⟩ ⟨rfl, rfl, trivial⟩
  rintro J2 ⟨x2, s2⟩ A2 ⟨⟨hx2, hx2p, hx2l, hs2⟩, rfl⟩
  dsimp only at hx2 hx2p hx2l hs2 ⊢
  refine W_cut (α := Nat × Nat) (fun x => [(0, .int .u64 (x.1 : Int)), (2, .int .i64 (x.2 : Int))]) (fun x A => (x.1 = n / 2 ^ x.2 ∧ 1 ≤ x.1 ∧ x.1 < 256 ∧ x.2 ≤ 56) ∧ w = A) ?_ ?_
  · by_cases h : 256 ≤ x2
    · (refine Ga ?_)
      refine cutQ_n (x2 / 256, s2 + 8) ⟨⟨?_, by dsimp only; omega, by dsimp only; omega, by dsimp only; omega⟩, rfl⟩ ⟨rfl, ?_, trivial⟩
      · dsimp only
        rw [hx2, Nat.div_div_eq_div_mul, Nat.pow_add]
      · show Value.int .i64 ((s2 : Int) + 8) = Value.int .i64 ((s2 + 8 : Nat) : Int)
        rw [Int.natCast_add]; rfl
    · (refine Ga ?_)
      exact cutQ_n (x2, s2) ⟨⟨hx2, hx2p, by dsimp only; omega, by dsimp only; omega⟩, rfl⟩ ⟨rfl, rfl, trivial⟩
  rintro J3 ⟨x3, s3⟩ A3 ⟨⟨hx3, hx3p, hx3l, hs3⟩, rfl⟩
  dsimp only at hx3 hx3p hx3l hs3 ⊢
  obtain ⟨t, ht, ht8, hlo, hhi⟩ := len8_spec x3 hx3p hx3l
  have hstep := len_step hx3 hlo hhi
  have hw8 : IntKind.u8.wrap (x3 : Int) = (x3 : Int) := wu8 (by omega) (by omega)
  (refine Ga ?_)
  have hsz8 : len8T.size = 256 := by decide +kernel
  apply Lst_pu
  · apply P_sindex (s := len8T)
    focus exact congrArg Value.string (by kernel_rfl)
    focus rfl
    focus rfl
    focus omega
    focus (rw [hsz8]; omega)
  focus rfl
  rw [show ((x3 : Int)).toNat = x3 from Int.toNat_natCast x3, ht]
  (refine Ga ?_)
  (apply retQ1; (focus rfl))
  refine ⟨⟨s3 + t, ?_, hstep⟩, rfl⟩
  show Value.int .i64 ((s3 : Int) + (t : Int)) = Value.int .i64 ((s3 + t : Nat) : Int)
  rw [Int.natCast_add]
theorem c_Len (n : Nat) (h1 : 1 ≤ n) (h2 : n < 4611686018427387904) (w : World) :
    Does Try.prog 75 #[.int .u64 (n : Int)] w fun v w' => (∃ r : Nat, v = .int .i64 (r : Int) ∧ n < 2 ^ r ∧ 2 ^ r ≤ 2 * n) ∧ w = w' := by
  refine Does_of (args := [.int .u64 (n : Int)]) Try.func75 (by kernel_rfl) rfl rfl rfl rfl rfl ?_
  (refine Ga ?_)
  (apply Lst_call; (focus rfl); (focus rfl))
  refine (c_Len64 n h1 h2 w).mono ?_
  rintro v w' ⟨⟨r, rfl, hr⟩, rfl⟩
  (refine Ga ?_)
  (apply retQ1; (focus rfl))
  exact ⟨⟨r, rfl, hr⟩, rfl⟩
theorem c_np2 (n : Nat) (h1 : 1 ≤ n) (h2 : n < 4611686018427387904) (w : World) :
    Does Try.prog 89 #[.int .i64 (n : Int)] w fun v w' => (∃ r : Nat, v = .int .u64 ((2 ^ r : Nat) : Int) ∧ n < 2 ^ r ∧ 2 ^ r ≤ 2 * n) ∧ w = w' := by
  refine Does_of (args := [.int .i64 (n : Int)]) Try.func89 (by kernel_rfl) rfl rfl rfl rfl rfl ?_
  (refine Ga ?_)
  (apply Lst_call; (focus rfl); (focus rfl))
  refine (c_Len n h1 h2 w).mono ?_
  rintro v w' ⟨⟨r, rfl, hr1, hr2⟩, rfl⟩
  have hr63 : r < 63 := by
    rcases Nat.lt_or_ge r 63 with h | h
    · exact h
    · have := Nat.pow_le_pow_right (n := 2) (by omega) h
      omega
  have hsh : IntKind.u64.wrap ((1 : Int) * 2 ^ (min ((r : Int)).toNat IntKind.u64.bits)) = ((2 ^ r : Nat) : Int) := by
    have e : min ((r : Int)).toNat IntKind.u64.bits = r := by
      have : IntKind.u64.bits = 64 := rfl
      rw [this, Int.toNat_natCast]
      omega
    rw [e, Int.one_mul, show (2 : Int) ^ r = ((2 ^ r : Nat) : Int) by rw [Int.natCast_pow]; rfl]
    exact wu64 (by omega) (by omega)
  (refine Ga ?_)
  apply Lst_pu
  · apply P_shl
    focus rfl
    focus rfl
    focus omega
    focus exact hsh
  focus rfl
  (refine Ga ?_)
  (apply retQ1; (focus rfl))
  exact ⟨⟨r, rfl, hr1, hr2⟩, rfl⟩
end So
namespace So
open Go Go.RowKit Sx
open Go.Sort (swp ltInt PermIn)
theorem and_pow (z : Int) (r : Nat) (h0 : 0 ≤ z) (h1 : z < 18446744073709551616) (hr : r ≤ 63) : bits .and .u64 z (((2 ^ r : Nat) : Int) - 1) = ((z.toNat % 2 ^ r : Nat) : Int) := by
  have hp := Nat.two_pow_pos r
  have hp2 : 2 ^ r ≤ 2 ^ 63 := Nat.pow_le_pow_right (by omega) hr
  have e1 : (BitVec.ofInt 64 z).toNat = z.toNat := by
    rw [BitVec.toNat_ofInt]; omega
  have e2 : (BitVec.ofInt 64 (((2 ^ r : Nat) : Int) - 1)).toNat = 2 ^ r - 1 := by
    rw [BitVec.toNat_ofInt]; omega
  show IntKind.u64.wrap ((BitVec.ofInt 64 z &&& BitVec.ofInt 64 (((2 ^ r : Nat) : Int) - 1)).toNat : Int) = _
  rw [BitVec.toNat_and, e1, e2, Nat.and_two_pow_sub_one_eq_mod]
  have := Nat.mod_lt z.toNat hp
  exact wu64 (by omega) (by omega)
theorem c_np2Z (n : Nat) (h1 : 1 ≤ n) (h2 : n < 4611686018427387904) (z : Int) (hz : z = n) (w : World) :
    Does Try.prog 89 #[.int .i64 z] w fun v w' => (∃ r : Nat, v = .int .u64 ((2 ^ r : Nat) : Int) ∧ n < 2 ^ r ∧ 2 ^ r ≤ 2 * n) ∧ w = w' := by
  subst hz
  exact c_np2 n h1 h2 w
attribute [local irreducible] W Lst Qst Pu seqQ blkQ rndQ cutQ retQ Does Enters IntKind.wrap bits sb World.alloc World.putObj Blk
attribute [local irreducible] Rn Tk rnQ
attribute [local irreducible] RnS
set_option maxHeartbeats 2000000 in
theorem c_break (b a L m c : Nat) (d : Array Int) (post : List Value) (hm : m = d.size) (hh : a + L ≤ d.size) (hL : 8 ≤ L) (hsz : d.size < 1152921504606846976) (w : World) (h : Arr w b d post) :
    Does Try.prog 79 #[.slice (some ⟨b, 0, none⟩) m c, .int .i64 (a : Int), .int .i64 ((a + L : Nat) : Int)] w fun v w' => v = .tuple #[] ∧ ∃ d', PermIn a (a + L) d d' ∧ Arr w' b d' post ∧ Chg [b] w w' := by
  refine Does_of (args := [.slice (some ⟨b, 0, none⟩) m c, .int .i64 (a : Int), .int .i64 ((a + L : Nat) : Int)]) Try.func79 (by kernel_rfl) rfl rfl rfl rfl rfl ?_
  subst hm
  have hq : IntKind.i64.wrap ((((a + L : Nat) : Int) - (a : Int)).tdiv 4) = ((L / 4 : Nat) : Int) := by
    rw [show ((a + L : Nat) : Int) - (a : Int) = ((L : Nat) : Int) by omega]
    have e : ((L : Nat) : Int).tdiv 4 = ((L / 4 : Nat) : Int) := rfl
    rw [e]
    exact wi64 (by omega) (by omega)
  (refine Ga ?_)
  have hlt := h.lt
  have hA : Arr ((w.alloc (.cells [.int .u64 0].toArray 132)).putObj w.heap.size (.cells [.int .u64 (((a + L : Nat) : Int) - (a : Int))].toArray 132)) b d post := (by (repeat (first | assumption | (apply Blk.below (hb := hb1); rotate_left; (focus ((try simp only [Sx.sizes]); omega)); rotate_right) | (apply Blk.below (hb := hb2); rotate_left; (focus ((try simp only [Sx.sizes]); omega)); rotate_right) | (apply Blk.below (hb := hb3); rotate_left; (focus ((try simp only [Sx.sizes]); omega)); rotate_right) | (apply Blk.below (hb := hb4); rotate_left; (focus ((try simp only [Sx.sizes]); omega)); rotate_right) | (apply Blk.below (hb := hb5); rotate_left; (focus ((try simp only [Sx.sizes]); omega)); rotate_right) | (apply Blk.below (hb := hb6); rotate_left; (focus ((try simp only [Sx.sizes]); omega)); rotate_right) | (apply Blk.below (hb := hb7); rotate_left; (focus ((try simp only [Sx.sizes]); omega)); rotate_right) | (apply Blk.below (hb := hb8); rotate_left; (focus ((try simp only [Sx.sizes]); omega)); rotate_right) | (apply Blk.below (hb := hb9); rotate_left; (focus ((try simp only [Sx.sizes]); omega)); rotate_right) | exact Blk.newE (by first | rfl | ((try simp only [Sx.sizes]); first | done | omega)) _ _ | exact Blk.put_same (by (try simp only [Sx.sizes]); first | done | omega) _ _ | (apply Blk.put_ne; (focus omega)) | apply Blk.alloc | apply Blk.drew)); done)
  have hS : Blk ((w.alloc (.cells [.int .u64 0].toArray 132)).putObj w.heap.size (.cells [.int .u64 (((a + L : Nat) : Int) - (a : Int))].toArray 132)) w.heap.size [.int .u64 (((a + L : Nat) : Int) - (a : Int))] 132 := (by (repeat (first | assumption | (apply Blk.below (hb := hb1); rotate_left; (focus ((try simp only [Sx.sizes]); omega)); rotate_right) | (apply Blk.below (hb := hb2); rotate_left; (focus ((try simp only [Sx.sizes]); omega)); rotate_right) | (apply Blk.below (hb := hb3); rotate_left; (focus ((try simp only [Sx.sizes]); omega)); rotate_right) | (apply Blk.below (hb := hb4); rotate_left; (focus ((try simp only [Sx.sizes]); omega)); rotate_right) | (apply Blk.below (hb := hb5); rotate_left; (focus ((try simp only [Sx.sizes]); omega)); rotate_right) | (apply Blk.below (hb := hb6); rotate_left; (focus ((try simp only [Sx.sizes]); omega)); rotate_right) | (apply Blk.below (hb := hb7); rotate_left; (focus ((try simp only [Sx.sizes]); omega)); rotate_right) | (apply Blk.below (hb := hb8); rotate_left; (focus ((try simp only [Sx.sizes]); omega)); rotate_right) | (apply Blk.below (hb := hb9); rotate_left; (focus ((try simp only [Sx.sizes]); omega)); rotate_right) | exact Blk.newE (by first | rfl | ((try simp only [Sx.sizes]); first | done | omega)) _ _ | exact Blk.put_same (by (try simp only [Sx.sizes]); first | done | omega) _ _ | (apply Blk.put_ne; (focus omega)) | apply Blk.alloc | apply Blk.drew)); done)
  have hc : Chg [b] w ((w.alloc (.cells [.int .u64 0].toArray 132)).putObj w.heap.size (.cells [.int .u64 (((a + L : Nat) : Int) - (a : Int))].toArray 132)) := ((Chg.refl _ _).alloc _).put (.inr (Nat.le_refl _)) _
  generalize ((w.alloc (.cells [.int .u64 0].toArray 132)).putObj w.heap.size (.cells [.int .u64 (((a + L : Nat) : Int) - (a : Int))].toArray 132)) = A at *
  generalize hrb : w.heap.size = rb at *
  have hne : b ≠ rb := by omega
  have hcs : ∀ {x y : World}, Chg [b] w x → Chg [rb] x y → Chg [b] w y := fun h1 h2 => ⟨h2.os.trans h1.os, h2.tape.trans h1.tape, h2.output.trans h1.output, Nat.le_trans h1.size h2.size, fun q hq hn => (h2.block q (Nat.lt_of_lt_of_le hq h1.size) (by simp; omega)).trans (h1.block q hq hn)⟩
  clear h
  (apply Lst_call; (focus rfl); (focus rfl))
  refine (c_np2Z L (by omega) (by omega) _ (by omega) A).mono ?_
  rintro v w' ⟨⟨r, rfl, hr1, hr2⟩, rfl⟩
  have hr63 : r ≤ 63 := by
    rcases Nat.lt_or_ge r 64 with h | h
    · omega
    · have := Nat.pow_le_pow_right (n := 2) (by omega) h
      omega
  (refine Ga ?_)
  refine W_loop (α := Nat × Int × Array Int) (fun x => (9, .int .i64 ((a + L / 4 * 2 - 1 + x.1 : Nat) : Int)) :: [(0, .slice (some ⟨b, 0, none⟩) d.size c), (1, .int .i64 (a : Int)), (6, .int .i64 (((a + L : Nat) : Int) - (a : Int))), (7, .pointer (some ⟨rb, 0, none⟩)), (8, .int .u64 ((2 ^ r : Nat) : Int))])
    (fun x A => x.1 ≤ 3 ∧ PermIn a (a + L) d x.2.2 ∧ Arr A b x.2.2 post ∧ Blk A rb [.int .u64 x.2.1] 132 ∧ Chg [b] w A) (fun x _ => 3 - x.1) (0, ((a + L : Nat) : Int) - (a : Int), d)
    ⟨Nat.zero_le _, Go.Sort.permIn_refl _ _ _, hA, hS, hc⟩ ⟨?_, rfl, rfl, rfl, rfl, rfl, trivial⟩ ?_
  · show Value.int .i64 ((a : Int) + IntKind.i64.wrap ((((a + L : Nat) : Int) - (a : Int)).tdiv 4) * 2 - 1) = Value.int .i64 ((a + L / 4 * 2 - 1 + 0 : Nat) : Int)
    rw [hq]
    congr 1
    omega
  clear hA hS hc
  rintro J ⟨t, z, k⟩ A ⟨ht, hp, hA, hS, hc⟩
  dsimp only at ht hp hA hS ⊢
  have hks := hp.1
  by_cases ht3 : t = 3
  · subst ht3
    (refine Ga ?_)
    (first | apply retQ0n | apply retQ0)
    exact ⟨rfl, k, hp, hA, hc⟩
  · (refine Ga ?_)
    (apply Lst_call; (focus rfl); (focus rfl))
    refine (c_Next rb z A hS).mono ?_
    rintro v A2 ⟨⟨z1, rfl, hz1, hS2⟩, hc2⟩
    have hA2 : Arr A2 b k post := hc2.blk hA (by simpa using hne)
    have hc2 := hcs hc hc2
    clear hA hS hc
    obtain ⟨A, rfl⟩ : ∃ A, A = A2 := ⟨_, rfl⟩
    have hA := hA2
    have hS := hS2
    have hc := hc2
    clear hA2 hS2 hc2
    have hand := and_pow z1 r hz1.1 hz1.2 hr63
    have hmod := Nat.mod_lt z1.toNat (Nat.two_pow_pos r)
    generalize z1.toNat % 2 ^ r = o at *
    by_cases ho : L ≤ o
    · (refine Ga ?_)
      first | refine W_cutS (α := Unit) (fun _ => (9, .int .i64 ((a + L / 4 * 2 - 1 + t : Nat) : Int)) :: [(0, .slice (some ⟨b, 0, none⟩) d.size c), (1, .int .i64 (a : Int)), (6, .int .i64 (((a + L : Nat) : Int) - (a : Int))), (7, .pointer (some ⟨rb, 0, none⟩)), (8, .int .u64 ((2 ^ r : Nat) : Int))]) (fun _ A' => Arr A' b (Go.Sort.swp k (a + L / 4 * 2 - 1 + t) (a + (o - L))) post ∧ Chg [b] A A') ?_ ?_ | refine W_cutB (α := Unit) (fun _ => (9, .int .i64 ((a + L / 4 * 2 - 1 + t : Nat) : Int)) :: [(0, .slice (some ⟨b, 0, none⟩) d.size c), (1, .int .i64 (a : Int)), (6, .int .i64 (((a + L : Nat) : Int) - (a : Int))), (7, .pointer (some ⟨rb, 0, none⟩)), (8, .int .u64 ((2 ^ r : Nat) : Int))]) (fun _ A' => Arr A' b (Go.Sort.swp k (a + L / 4 * 2 - 1 + t) (a + (o - L))) post ∧ Chg [b] A A') ?_ ?_
      · skip
        have hAd : Arr A.drew b k post := Blk.drew hA
        have hkl := us_len k
        have cI := hAd.cell (a + L / 4 * 2 - 1 + t) (by omega) (0 + (a + L / 4 * 2 - 1 + t)) (by omega)
        have cJ := hAd.cell (a + (o - L)) (by omega) (0 + ((a : Int) + ((o : Int) - (((a + L : Nat) : Int) - (a : Int)))).toNat) (by omega)
        refine W_drawS 20 (fun _ => True) rfl rfl ?_
        (refine S_take 0 19 rfl (by kernel_rfl) (by repeat (first | exact retQ_p | apply seqQ_p | apply blkQ_p | apply rndQ_p | apply cutQ_p)) trivial ?_)
        (refine Gt ?_)
        (refine S_take 1 18 rfl (by kernel_rfl) (by repeat (first | exact retQ_p | apply seqQ_p | apply blkQ_p | apply rndQ_p | apply cutQ_p)) trivial ?_)
        (refine Gt ?_)
        (refine S_take 2 17 rfl (by kernel_rfl) (by repeat (first | exact retQ_p | apply seqQ_p | apply blkQ_p | apply rndQ_p | apply cutQ_p)) trivial ?_)
        (refine Gt ?_)
        (refine S_take 3 16 rfl (by kernel_rfl) (by repeat (first | exact retQ_p | apply seqQ_p | apply blkQ_p | apply rndQ_p | apply cutQ_p)) trivial ?_)
        (refine Gt ?_)
        (refine S_take 4 15 rfl (by kernel_rfl) (by repeat (first | exact retQ_p | apply seqQ_p | apply blkQ_p | apply rndQ_p | apply cutQ_p)) trivial ?_)
        (refine Gt ?_)
        (refine S_take 5 14 rfl (by kernel_rfl) (by repeat (first | exact retQ_p | apply seqQ_p | apply blkQ_p | apply rndQ_p | apply cutQ_p)) trivial ?_)
        (refine Gt ?_)
        (refine S_take 6 13 rfl (by kernel_rfl) (by repeat (first | exact retQ_p | apply seqQ_p | apply blkQ_p | apply rndQ_p | apply cutQ_p)) trivial ?_)
        (refine Gt ?_)
        (refine S_take 7 12 rfl (by kernel_rfl) (by repeat (first | exact retQ_p | apply seqQ_p | apply blkQ_p | apply rndQ_p | apply cutQ_p)) trivial ?_)
        (refine Gt ?_)
        (refine S_take 8 11 rfl (by kernel_rfl) (by repeat (first | exact retQ_p | apply seqQ_p | apply blkQ_p | apply rndQ_p | apply cutQ_p)) trivial ?_)
        (refine Gt ?_)
        (refine S_take 9 10 rfl (by kernel_rfl) (by repeat (first | exact retQ_p | apply seqQ_p | apply blkQ_p | apply rndQ_p | apply cutQ_p)) trivial ?_)
        (refine Gt ?_)
        (refine S_take 10 9 rfl (by kernel_rfl) (by repeat (first | exact retQ_p | apply seqQ_p | apply blkQ_p | apply rndQ_p | apply cutQ_p)) trivial ?_)
        (apply Qst_pu; (focus (first | (apply P_idx1; (focus rfl); (focus rfl); (focus rfl); (focus rfl); (focus rfl); (focus omega)) | (apply P_idxu; (focus rfl); (focus rfl); (focus rfl); (focus rfl); (focus rfl); (focus omega); (focus omega)))); (focus rfl); (repeat' (first | (apply Qst_nil) | (apply rnQ_k; (focus (exact trivial))))))
        (refine S_take 12 8 rfl (by kernel_rfl) (by repeat (first | exact retQ_p | apply seqQ_p | apply blkQ_p | apply rndQ_p | apply cutQ_p)) trivial ?_)
        (refine Gt ?_)
        (refine S_take 13 7 rfl (by kernel_rfl) (by repeat (first | exact retQ_p | apply seqQ_p | apply blkQ_p | apply rndQ_p | apply cutQ_p)) trivial ?_)
        (refine Gt ?_)
        (refine S_take 14 6 rfl (by kernel_rfl) (by repeat (first | exact retQ_p | apply seqQ_p | apply blkQ_p | apply rndQ_p | apply cutQ_p)) trivial ?_)
        (apply Qst_pu; (focus (first | (apply P_idx1; (focus rfl); (focus rfl); (focus rfl); (focus rfl); (focus rfl); (focus omega)) | (apply P_idxu; (focus rfl); (focus rfl); (focus rfl); (focus rfl); (focus rfl); (focus omega); (focus omega)))); (focus rfl); (repeat' (first | (apply Qst_nil) | (apply rnQ_k; (focus (exact trivial))))))
        refine S_any [11, 15] 5 rfl (by kernel_rfl) (all2 ?_ ?_)
        all_goals (refine Gt ?_)
        all_goals (refine ⟨trivial, ?_⟩)
        rotate_left
        (refine S_any [11] 4 rfl (by kernel_rfl) (all1 ?_))
        rotate_left
        (refine S_any [15] 4 rfl (by kernel_rfl) (all1 ?_))
        all_goals (refine Gt ?_)
        all_goals (refine ⟨trivial, ?_⟩)
        all_goals (refine S_take 16 3 rfl (by kernel_rfl) (by repeat (first | exact retQ_p | apply seqQ_p | apply blkQ_p | apply rndQ_p | apply cutQ_p)) trivial ?_)
        all_goals (apply Qst_pu; (focus (first | (apply P_idx1; (focus rfl); (focus rfl); (focus rfl); (focus rfl); (focus rfl); (focus omega)) | (apply P_idxu; (focus rfl); (focus rfl); (focus rfl); (focus rfl); (focus rfl); (focus omega); (focus omega)))); (focus rfl); (repeat' (first | (apply Qst_nil) | (apply rnQ_k; (focus (exact trivial))))))
        all_goals (refine S_any [17] 2 rfl (by kernel_rfl) (all1 ?_))
        all_goals (apply Lst_put (i := (a + L / 4 * 2 - 1 + t)) (hb := hAd); (focus rfl); (focus rfl); (focus rfl); (focus rfl); (focus omega); (focus (first | (rw [List.length_append]; omega) | (rw [List.length_set, List.length_append]; omega))))
        all_goals (refine Gt ?_)
        all_goals (refine ⟨trivial, ?_⟩)
        all_goals (refine S_take 18 1 rfl (by kernel_rfl) (by repeat (first | exact retQ_p | apply seqQ_p | apply blkQ_p | apply rndQ_p | apply cutQ_p)) trivial ?_)
        all_goals (apply Qst_pu; (focus (first | (apply P_idx1; (focus rfl); (focus rfl); (focus rfl); (focus rfl); (focus rfl); (focus omega)) | (apply P_idxu; (focus rfl); (focus rfl); (focus rfl); (focus rfl); (focus rfl); (focus omega); (focus omega)))); (focus rfl); (repeat' (first | (apply Qst_nil) | (apply rnQ_k; (focus (exact trivial))))))
        all_goals (refine S_any [19] 0 rfl (by kernel_rfl) (all1 ?_))
        all_goals (apply Lst_put (i := (a + (o - L))) (hb := Blk.put_same hAd.lt _ _); (focus rfl); (focus rfl); (focus rfl); (focus rfl); (focus omega); (focus (first | (rw [List.length_append]; omega) | (rw [List.length_set, List.length_append]; omega))))
        all_goals (refine Gt ?_)
        all_goals (refine ⟨trivial, ?_⟩)
        all_goals (refine S_done (by kernel_rfl) ?_)
        all_goals have hA2 : Arr ((A.drew.putObj b (.cells ((us k ++ post).set (a + L / 4 * 2 - 1 + t) (.int .u64 k[(a + (o - L))]!)).toArray 27)).putObj b (.cells (((us k ++ post).set (a + L / 4 * 2 - 1 + t) (.int .u64 k[(a + (o - L))]!)).set (a + (o - L)) (.int .u64 k[(a + L / 4 * 2 - 1 + t)]!)).toArray 27)) b (Go.Sort.swp k (a + L / 4 * 2 - 1 + t) (a + (o - L))) post := by unfold Arr; rw [us_swp k post (a + L / 4 * 2 - 1 + t) (a + (o - L)) (by omega) (by omega)]; exact Blk.put_same (by rw [World.putObj_size]; exact hAd.lt) _ _
        all_goals have hc2 : Chg [b] A ((A.drew.putObj b (.cells ((us k ++ post).set (a + L / 4 * 2 - 1 + t) (.int .u64 k[(a + (o - L))]!)).toArray 27)).putObj b (.cells (((us k ++ post).set (a + L / 4 * 2 - 1 + t) (.int .u64 k[(a + (o - L))]!)).set (a + (o - L)) (.int .u64 k[(a + L / 4 * 2 - 1 + t)]!)).toArray 27)) := ((Chg.refl [b] A).drew.put (by simp) _).put (by simp) _
        all_goals have hks2 := swp_size k (a + L / 4 * 2 - 1 + t) (a + (o - L))
        all_goals generalize (A.drew.putObj b (.cells ((us k ++ post).set (a + L / 4 * 2 - 1 + t) (.int .u64 k[(a + (o - L))]!)).toArray 27)).putObj b (.cells (((us k ++ post).set (a + L / 4 * 2 - 1 + t) (.int .u64 k[(a + (o - L))]!)).set (a + (o - L)) (.int .u64 k[(a + L / 4 * 2 - 1 + t)]!)).toArray 27) = A2 at *
        all_goals (first | apply blkQ_n | skip)
        all_goals exact cutQ_n () ⟨hA2, hc2⟩ ⟨rfl, rfl, rfl, rfl, rfl, rfl, trivial⟩
      rintro Jc ⟨⟩ A1 ⟨hA1, hc1⟩
      have hp2 := Go.Sort.permIn_trans _ _ _ a (a + L) hp (Go.Sort.swp_permIn k a (a + L) (a + L / 4 * 2 - 1 + t) (a + (o - L)) (by omega) (by omega) (by omega) (by omega) (by omega))
      have hS2 := hc1.blk hS (by simpa using hne.symm)
      have hc2 := hc.trans hc1
      (refine Ga ?_)
      refine rndQ_n (α := Nat × Int × Array Int) (t + 1, z1, swp k (a + L / 4 * 2 - 1 + t) (a + (o - L))) ⟨by dsimp only; omega, hp2, hA1, hS2, hc2⟩ ⟨?_, rfl, rfl, rfl, rfl, rfl, trivial⟩ (by dsimp only; omega)
      show Value.int .i64 (((a + L / 4 * 2 - 1 + t : Nat) : Int) + 1) = Value.int .i64 ((a + L / 4 * 2 - 1 + (t + 1) : Nat) : Int)
      congr 1
    · (refine Ga ?_)
      first | refine W_cutS (α := Unit) (fun _ => (9, .int .i64 ((a + L / 4 * 2 - 1 + t : Nat) : Int)) :: [(0, .slice (some ⟨b, 0, none⟩) d.size c), (1, .int .i64 (a : Int)), (6, .int .i64 (((a + L : Nat) : Int) - (a : Int))), (7, .pointer (some ⟨rb, 0, none⟩)), (8, .int .u64 ((2 ^ r : Nat) : Int))]) (fun _ A' => Arr A' b (Go.Sort.swp k (a + L / 4 * 2 - 1 + t) (a + o)) post ∧ Chg [b] A A') ?_ ?_ | refine W_cutB (α := Unit) (fun _ => (9, .int .i64 ((a + L / 4 * 2 - 1 + t : Nat) : Int)) :: [(0, .slice (some ⟨b, 0, none⟩) d.size c), (1, .int .i64 (a : Int)), (6, .int .i64 (((a + L : Nat) : Int) - (a : Int))), (7, .pointer (some ⟨rb, 0, none⟩)), (8, .int .u64 ((2 ^ r : Nat) : Int))]) (fun _ A' => Arr A' b (Go.Sort.swp k (a + L / 4 * 2 - 1 + t) (a + o)) post ∧ Chg [b] A A') ?_ ?_
      · skip
        have hAd : Arr A.drew b k post := Blk.drew hA
        have hkl := us_len k
        have cI := hAd.cell (a + L / 4 * 2 - 1 + t) (by omega) (0 + (a + L / 4 * 2 - 1 + t)) (by omega)
        have cJ := hAd.cell (a + o) (by omega) (0 + ((a : Int) + (o : Int)).toNat) (by omega)
        refine W_drawS 20 (fun _ => True) rfl rfl ?_
        (refine S_take 0 19 rfl (by kernel_rfl) (by repeat (first | exact retQ_p | apply seqQ_p | apply blkQ_p | apply rndQ_p | apply cutQ_p)) trivial ?_)
        (refine Gt ?_)
        (refine S_take 1 18 rfl (by kernel_rfl) (by repeat (first | exact retQ_p | apply seqQ_p | apply blkQ_p | apply rndQ_p | apply cutQ_p)) trivial ?_)
        (refine Gt ?_)
        (refine S_take 2 17 rfl (by kernel_rfl) (by repeat (first | exact retQ_p | apply seqQ_p | apply blkQ_p | apply rndQ_p | apply cutQ_p)) trivial ?_)
        (refine Gt ?_)
        (refine S_take 3 16 rfl (by kernel_rfl) (by repeat (first | exact retQ_p | apply seqQ_p | apply blkQ_p | apply rndQ_p | apply cutQ_p)) trivial ?_)
        (refine Gt ?_)
        (refine S_take 4 15 rfl (by kernel_rfl) (by repeat (first | exact retQ_p | apply seqQ_p | apply blkQ_p | apply rndQ_p | apply cutQ_p)) trivial ?_)
        (refine Gt ?_)
        (refine S_take 5 14 rfl (by kernel_rfl) (by repeat (first | exact retQ_p | apply seqQ_p | apply blkQ_p | apply rndQ_p | apply cutQ_p)) trivial ?_)
        (refine Gt ?_)
        (refine S_take 6 13 rfl (by kernel_rfl) (by repeat (first | exact retQ_p | apply seqQ_p | apply blkQ_p | apply rndQ_p | apply cutQ_p)) trivial ?_)
        (refine Gt ?_)
        (refine S_take 7 12 rfl (by kernel_rfl) (by repeat (first | exact retQ_p | apply seqQ_p | apply blkQ_p | apply rndQ_p | apply cutQ_p)) trivial ?_)
        (refine Gt ?_)
        (refine S_take 8 11 rfl (by kernel_rfl) (by repeat (first | exact retQ_p | apply seqQ_p | apply blkQ_p | apply rndQ_p | apply cutQ_p)) trivial ?_)
        (refine Gt ?_)
        (refine S_take 9 10 rfl (by kernel_rfl) (by repeat (first | exact retQ_p | apply seqQ_p | apply blkQ_p | apply rndQ_p | apply cutQ_p)) trivial ?_)
        (refine Gt ?_)
        (refine S_take 10 9 rfl (by kernel_rfl) (by repeat (first | exact retQ_p | apply seqQ_p | apply blkQ_p | apply rndQ_p | apply cutQ_p)) trivial ?_)
        (apply Qst_pu; (focus (first | (apply P_idx1; (focus rfl); (focus rfl); (focus rfl); (focus rfl); (focus rfl); (focus omega)) | (apply P_idxu; (focus rfl); (focus rfl); (focus rfl); (focus rfl); (focus rfl); (focus omega); (focus omega)))); (focus rfl); (repeat' (first | (apply Qst_nil) | (apply rnQ_k; (focus (exact trivial))))))
        (refine S_take 12 8 rfl (by kernel_rfl) (by repeat (first | exact retQ_p | apply seqQ_p | apply blkQ_p | apply rndQ_p | apply cutQ_p)) trivial ?_)
        (refine Gt ?_)
        (refine S_take 13 7 rfl (by kernel_rfl) (by repeat (first | exact retQ_p | apply seqQ_p | apply blkQ_p | apply rndQ_p | apply cutQ_p)) trivial ?_)
        (refine Gt ?_)
        (refine S_take 14 6 rfl (by kernel_rfl) (by repeat (first | exact retQ_p | apply seqQ_p | apply blkQ_p | apply rndQ_p | apply cutQ_p)) trivial ?_)
        (apply Qst_pu; (focus (first | (apply P_idx1; (focus rfl); (focus rfl); (focus rfl); (focus rfl); (focus rfl); (focus omega)) | (apply P_idxu; (focus rfl); (focus rfl); (focus rfl); (focus rfl); (focus rfl); (focus omega); (focus omega)))); (focus rfl); (repeat' (first | (apply Qst_nil) | (apply rnQ_k; (focus (exact trivial))))))
        refine S_any [11, 15] 5 rfl (by kernel_rfl) (all2 ?_ ?_)
        all_goals (refine Gt ?_)
        all_goals (refine ⟨trivial, ?_⟩)
        rotate_left
        (refine S_any [11] 4 rfl (by kernel_rfl) (all1 ?_))
        rotate_left
        (refine S_any [15] 4 rfl (by kernel_rfl) (all1 ?_))
        all_goals (refine Gt ?_)
        all_goals (refine ⟨trivial, ?_⟩)
        all_goals (refine S_take 16 3 rfl (by kernel_rfl) (by repeat (first | exact retQ_p | apply seqQ_p | apply blkQ_p | apply rndQ_p | apply cutQ_p)) trivial ?_)
        all_goals (apply Qst_pu; (focus (first | (apply P_idx1; (focus rfl); (focus rfl); (focus rfl); (focus rfl); (focus rfl); (focus omega)) | (apply P_idxu; (focus rfl); (focus rfl); (focus rfl); (focus rfl); (focus rfl); (focus omega); (focus omega)))); (focus rfl); (repeat' (first | (apply Qst_nil) | (apply rnQ_k; (focus (exact trivial))))))
        all_goals (refine S_any [17] 2 rfl (by kernel_rfl) (all1 ?_))
        all_goals (apply Lst_put (i := (a + L / 4 * 2 - 1 + t)) (hb := hAd); (focus rfl); (focus rfl); (focus rfl); (focus rfl); (focus omega); (focus (first | (rw [List.length_append]; omega) | (rw [List.length_set, List.length_append]; omega))))
        all_goals (refine Gt ?_)
        all_goals (refine ⟨trivial, ?_⟩)
        all_goals (refine S_take 18 1 rfl (by kernel_rfl) (by repeat (first | exact retQ_p | apply seqQ_p | apply blkQ_p | apply rndQ_p | apply cutQ_p)) trivial ?_)
        all_goals (apply Qst_pu; (focus (first | (apply P_idx1; (focus rfl); (focus rfl); (focus rfl); (focus rfl); (focus rfl); (focus omega)) | (apply P_idxu; (focus rfl); (focus rfl); (focus rfl); (focus rfl); (focus rfl); (focus omega); (focus omega)))); (focus rfl); (repeat' (first | (apply Qst_nil) | (apply rnQ_k; (focus (exact trivial))))))
        all_goals (refine S_any [19] 0 rfl (by kernel_rfl) (all1 ?_))
        all_goals (apply Lst_put (i := (a + o)) (hb := Blk.put_same hAd.lt _ _); (focus rfl); (focus rfl); (focus rfl); (focus rfl); (focus omega); (focus (first | (rw [List.length_append]; omega) | (rw [List.length_set, List.length_append]; omega))))
        all_goals (refine Gt ?_)
        all_goals (refine ⟨trivial, ?_⟩)
        all_goals (refine S_done (by kernel_rfl) ?_)
        all_goals have hA2 : Arr ((A.drew.putObj b (.cells ((us k ++ post).set (a + L / 4 * 2 - 1 + t) (.int .u64 k[(a + o)]!)).toArray 27)).putObj b (.cells (((us k ++ post).set (a + L / 4 * 2 - 1 + t) (.int .u64 k[(a + o)]!)).set (a + o) (.int .u64 k[(a + L / 4 * 2 - 1 + t)]!)).toArray 27)) b (Go.Sort.swp k (a + L / 4 * 2 - 1 + t) (a + o)) post := by unfold Arr; rw [us_swp k post (a + L / 4 * 2 - 1 + t) (a + o) (by omega) (by omega)]; exact Blk.put_same (by rw [World.putObj_size]; exact hAd.lt) _ _
        all_goals have hc2 : Chg [b] A ((A.drew.putObj b (.cells ((us k ++ post).set (a + L / 4 * 2 - 1 + t) (.int .u64 k[(a + o)]!)).toArray 27)).putObj b (.cells (((us k ++ post).set (a + L / 4 * 2 - 1 + t) (.int .u64 k[(a + o)]!)).set (a + o) (.int .u64 k[(a + L / 4 * 2 - 1 + t)]!)).toArray 27)) := ((Chg.refl [b] A).drew.put (by simp) _).put (by simp) _
        all_goals have hks2 := swp_size k (a + L / 4 * 2 - 1 + t) (a + o)
        all_goals generalize (A.drew.putObj b (.cells ((us k ++ post).set (a + L / 4 * 2 - 1 + t) (.int .u64 k[(a + o)]!)).toArray 27)).putObj b (.cells (((us k ++ post).set (a + L / 4 * 2 - 1 + t) (.int .u64 k[(a + o)]!)).set (a + o) (.int .u64 k[(a + L / 4 * 2 - 1 + t)]!)).toArray 27) = A2 at *
        all_goals (first | apply blkQ_n | skip)
        all_goals exact cutQ_n () ⟨hA2, hc2⟩ ⟨rfl, rfl, rfl, rfl, rfl, rfl, trivial⟩
      rintro Jc ⟨⟩ A1 ⟨hA1, hc1⟩
      have hp2 := Go.Sort.permIn_trans _ _ _ a (a + L) hp (Go.Sort.swp_permIn k a (a + L) (a + L / 4 * 2 - 1 + t) (a + o) (by omega) (by omega) (by omega) (by omega) (by omega))
      have hS2 := hc1.blk hS (by simpa using hne.symm)
      have hc2 := hc.trans hc1
      (refine Ga ?_)
      refine rndQ_n (α := Nat × Int × Array Int) (t + 1, z1, swp k (a + L / 4 * 2 - 1 + t) (a + o)) ⟨by dsimp only; omega, hp2, hA1, hS2, hc2⟩ ⟨?_, rfl, rfl, rfl, rfl, rfl, trivial⟩ (by dsimp only; omega)
      show Value.int .i64 (((a + L / 4 * 2 - 1 + t : Nat) : Int) + 1) = Value.int .i64 ((a + L / 4 * 2 - 1 + (t + 1) : Nat) : Int)
      congr 1
end So
namespace So
open Go Go.RowKit Sx
open Go.Sort (swp ltInt PermIn SortedIn)
/-- What the sort leaves, from a on, L of them. -/
def PdqL (b m c : Nat) (post : List Value) (L : Nat) : Prop := ∀ (a : Nat) (lim : Int) (d : Array Int) (z1 z2 : Int) (w : World), z1 = a → z2 = ((a + L : Nat) : Int) → 0 ≤ lim → lim ≤ 100 → a + L ≤ d.size → d.size = m → Go.Sort.Below ltInt a (a + L) d → Arr w b d post →
  Does Try.prog 74 #[.slice (some ⟨b, 0, none⟩) m c, .int .i64 z1, .int .i64 z2, .int .i64 lim] w fun v w' => v = .tuple #[] ∧ ∃ d', Arr w' b d' post ∧ PermIn a (a + L) d d' ∧ SortedIn ltInt a (a + L) d' ∧ Chg [b] w w'
attribute [local irreducible] W Lst Qst Pu seqQ blkQ rndQ cutQ retQ Does Enters IntKind.wrap bits sb World.alloc World.putObj Blk
attribute [local irreducible] Rn Tk rnQ
attribute [local irreducible] RnS
set_option maxHeartbeats 4000000 in
theorem c_pdq (b m c : Nat) (post : List Value) (hsz : m < 1152921504606846976) : ∀ N L, L < N → PdqL b m c post L := by
  intro N
  induction N with
  | zero => intro L h; omega
  | succ N ih =>
  intro L0 hLN a0 lim d0 z1 z2 w e1 e2 hl0 hl1 hh hm hB h
  subst e1 e2
  refine Does_of (args := [.slice (some ⟨b, 0, none⟩) m c, .int .i64 (a0 : Int), .int .i64 ((a0 + L0 : Nat) : Int), .int .i64 lim]) Try.func74 (by kernel_rfl) rfl rfl rfl rfl rfl ?_
  (refine Ga ?_)
  refine W_loop (α := Nat × Nat × Int × Bool × Bool × Array Int) (fun (a, L, lim, wb, wp, _) => [(0, .slice (some ⟨b, 0, none⟩) m c), (1, .int .i64 (a : Int)), (2, .int .i64 ((a + L : Nat) : Int)), (3, .int .i64 lim), (8, .bool wb), (9, .bool wp)])
    (fun (a, L, lim, _, _, k) A => L ≤ L0 ∧ (0 ≤ lim ∧ lim ≤ 100) ∧ a + L ≤ m ∧ k.size = m ∧ Go.Sort.Below ltInt a (a + L) k ∧ (∀ R, PermIn a (a + L) k R → SortedIn ltInt a (a + L) R → PermIn a0 (a0 + L0) d0 R ∧ SortedIn ltInt a0 (a0 + L0) R) ∧ Arr A b k post ∧ Chg [b] w A) (fun x _ => x.2.1) (a0, L0, lim, true, true, d0)
    ⟨Nat.le_refl _, ⟨hl0, hl1⟩, by omega, hm, hB, fun R h1 h2 => ⟨h1, h2⟩, h, Chg.refl _ _⟩ ⟨rfl, rfl, rfl, rfl, rfl, rfl, trivial⟩ ?_
  clear h hB hh hl0 hl1 lim
  rintro J ⟨a, L, lim, wb, wp, k⟩ A ⟨hM, hlim, hh, hks, hB, hF, hA, hc⟩
  by_cases h12 : L ≤ 12
  · (refine Ga ?_)
    (apply Lst_call; (focus rfl); (focus rfl))
    refine (c_ins b a (a + L) m c k post hks.symm (by omega) (by omega) (by omega) A hA).mono ?_
    rintro v A2 ⟨rfl, hA2, hc2⟩
    have hp := Go.Sort.insertionSort_holds Go.Sort.swo_ltInt k a (a + L) (by omega) (by omega)
    (refine Ga ?_)
    have hfin := hF _ hp.1 hp.2
    (first | apply retQ0n | apply retQ0)
    exact ⟨rfl, _, hA2, hfin.1, hfin.2, hc.trans hc2⟩
  by_cases hl0 : lim = 0
  · subst hl0
    (refine Ga ?_)
    (apply Lst_call; (focus rfl); (focus rfl))
    refine (c_heap b a L m c k post hks.symm (by omega) (by omega) (by omega) A hA).mono ?_
    rintro v A2 ⟨rfl, hA2, hc2⟩
    have hp := Go.Sort.heapSort_holds Go.Sort.swo_ltInt k a (a + L) (by omega) (by omega)
    (refine Ga ?_)
    have hfin := hF _ hp.1 hp.2
    (first | apply retQ0n | apply retQ0)
    exact ⟨rfl, _, hA2, hfin.1, hfin.2, hc.trans hc2⟩
  (refine Ga ?_)
  refine W_cutS (α := Int × Array Int) (fun (lim, _) => ((10, .int .i64 (((a + L : Nat) : Int) - (a : Int))) :: [(0, .slice (some ⟨b, 0, none⟩) m c), (1, .int .i64 (a : Int)), (2, .int .i64 ((a + L : Nat) : Int)), (3, .int .i64 lim), (8, .bool wb), (9, .bool wp)])) (fun (lim1, k1) A => (0 ≤ lim1 ∧ lim1 ≤ 100) ∧ PermIn a (a + L) k k1 ∧ Arr A b k1 post ∧ Chg [b] w A) ?_ ?_
  · rcases wb with _ | _
    · (refine Ga ?_)
      (apply Lst_call; (focus rfl); (focus rfl))
      refine (c_break b a L m c k post hks.symm (by omega) (by omega) (by omega) A hA).mono ?_
      rintro v A2 ⟨rfl, k1, hp1, hA2, hc2⟩
      (refine Ga ?_)
      exact cutQ_n (lim - 1, k1) ⟨⟨by omega, by omega⟩, hp1, hA2, hc.trans hc2⟩ ⟨rfl, rfl, rfl, rfl, rfl, rfl, rfl, trivial⟩
    · (refine Ga ?_)
      exact cutQ_n (lim, k) ⟨hlim, Go.Sort.permIn_refl _ _ _, hA, hc⟩ ⟨rfl, rfl, rfl, rfl, rfl, rfl, rfl, trivial⟩
  clear hA hc hlim hl0
  rintro J1 ⟨lim, k1⟩ A ⟨hlim, hp1, hA, hc⟩
  have hks1 : k1.size = m := hp1.1.trans hks
  dsimp only at hlim hA ⊢
  (refine Ga ?_)
  (apply Lst_call; (focus rfl); (focus rfl))
  refine (c_choose b a L m c k1 post hks1.symm (by omega) (by omega) (by omega) A hA).mono ?_
  rintro v A2 ⟨⟨p, hint, rfl, hpv, hhint⟩, hA2, hc2⟩
  have hc3 := hc.trans hc2
  clear hA hc hc2
  (repeat' (first | (apply W_region) | (apply W_block) | (apply W_skip) | (apply W_ret) | (apply W_exit) | (apply W_cond_t; (focus rfl)) | (apply W_cond_f; (focus rfl)) | (apply Lst_nil) | (apply seqQ_n) | (apply seqQ_r) | (apply seqQ_e) | (apply blkQ_n) | (apply blkQ_r) | (apply blkQ_e) | (apply blkQ_o; (focus rfl)) | (apply rndQ_r) | (apply rndQ_e) | (apply cutQ_r) | (apply cutQ_e) | (apply Lst_guard_t; (focus rfl); (focus rfl)) | (apply Lst_guard_f; (focus rfl); (focus rfl); (focus rfl); (focus rfl)) | (apply Lst_guard_u; (focus rfl); (focus rfl); (focus rfl)) | (apply Lst_rangeS; (focus rfl); (focus rfl); (focus ((try simp only [Sx.sizes]); first | done | rfl)); (focus rfl)) | (apply Lst_alloc; (focus rfl); (focus rfl); (focus rfl); (focus ((try simp only [Sx.sizes]); first | done | rfl)); (focus rfl)) | (apply Lst_box; (focus constructor); (focus rfl); (focus ((try simp only [Sx.sizes]); first | done | rfl)); (focus rfl)) | (apply Lst_load; (focus rfl); (focus rfl); (focus rfl); (focus ((repeat (first | assumption | (apply Blk.below (hb := hb1); rotate_left; (focus ((try simp only [Sx.sizes]); omega)); rotate_right) | (apply Blk.below (hb := hb2); rotate_left; (focus ((try simp only [Sx.sizes]); omega)); rotate_right) | (apply Blk.below (hb := hb3); rotate_left; (focus ((try simp only [Sx.sizes]); omega)); rotate_right) | (apply Blk.below (hb := hb4); rotate_left; (focus ((try simp only [Sx.sizes]); omega)); rotate_right) | (apply Blk.below (hb := hb5); rotate_left; (focus ((try simp only [Sx.sizes]); omega)); rotate_right) | (apply Blk.below (hb := hb6); rotate_left; (focus ((try simp only [Sx.sizes]); omega)); rotate_right) | (apply Blk.below (hb := hb7); rotate_left; (focus ((try simp only [Sx.sizes]); omega)); rotate_right) | (apply Blk.below (hb := hb8); rotate_left; (focus ((try simp only [Sx.sizes]); omega)); rotate_right) | (apply Blk.below (hb := hb9); rotate_left; (focus ((try simp only [Sx.sizes]); omega)); rotate_right) | exact Blk.newE (by first | rfl | ((try simp only [Sx.sizes]); first | done | omega)) _ _ | exact Blk.put_same (by (try simp only [Sx.sizes]); first | done | omega) _ _ | (apply Blk.put_ne; (focus omega)) | apply Blk.alloc | apply Blk.drew)); done)); (focus rfl); (focus rfl)) | (apply Lst_loadc; (focus rfl); (focus rfl); (focus rfl); (focus assumption); (focus rfl)) | (apply Lst_store; (focus rfl); (focus constructor); (focus rfl); (focus rfl); (focus rfl); (focus rfl); (focus ((repeat (first | assumption | (apply Blk.below (hb := hb1); rotate_left; (focus ((try simp only [Sx.sizes]); omega)); rotate_right) | (apply Blk.below (hb := hb2); rotate_left; (focus ((try simp only [Sx.sizes]); omega)); rotate_right) | (apply Blk.below (hb := hb3); rotate_left; (focus ((try simp only [Sx.sizes]); omega)); rotate_right) | (apply Blk.below (hb := hb4); rotate_left; (focus ((try simp only [Sx.sizes]); omega)); rotate_right) | (apply Blk.below (hb := hb5); rotate_left; (focus ((try simp only [Sx.sizes]); omega)); rotate_right) | (apply Blk.below (hb := hb6); rotate_left; (focus ((try simp only [Sx.sizes]); omega)); rotate_right) | (apply Blk.below (hb := hb7); rotate_left; (focus ((try simp only [Sx.sizes]); omega)); rotate_right) | (apply Blk.below (hb := hb8); rotate_left; (focus ((try simp only [Sx.sizes]); omega)); rotate_right) | (apply Blk.below (hb := hb9); rotate_left; (focus ((try simp only [Sx.sizes]); omega)); rotate_right) | exact Blk.newE (by first | rfl | ((try simp only [Sx.sizes]); first | done | omega)) _ _ | exact Blk.put_same (by (try simp only [Sx.sizes]); first | done | omega) _ _ | (apply Blk.put_ne; (focus omega)) | apply Blk.alloc | apply Blk.drew)); done)); (focus ((repeat constructor); done))) | (apply Lst_pu; (focus (first | (apply P_neg; (focus rfl); (focus (first | assumption | exact wi64 (by omega) (by omega) | exact wu64 (by omega) (by omega) | exact wi32 (by omega) (by omega) | exact wu8 (by omega) (by omega) | rfl))) | (apply P_move; (focus constructor)) | (apply P_assign; (focus constructor)) | (apply P_ar; (focus rfl); (focus rfl); (focus rfl); (focus (first | assumption | exact wi64 (by omega) (by omega) | exact wu64 (by omega) (by omega) | exact wi32 (by omega) (by omega) | exact wu8 (by omega) (by omega) | rfl))) | (apply P_ct; (focus rfl); (focus rfl); (focus rfl); (focus (dsimp only [cmpP]; first | done | omega))) | (apply P_cf; (focus rfl); (focus rfl); (focus rfl); (focus (dsimp only [cmpP]; first | done | omega))) | (apply P_pick_t; (focus rfl); (focus constructor)) | (apply P_pick_f; (focus rfl); (focus constructor)) | (apply P_extract; (focus rfl); (focus rfl)) | (apply P_not; (focus rfl); (focus rfl)) | (apply P_slen; (focus rfl); (focus rfl)) | (apply P_llen; (focus rfl); (focus rfl)) | (apply P_beq; (focus rfl); (focus rfl); (focus rfl); (focus (first | exact beq_self_eq_true _ | rfl))) | (apply P_bne; (focus rfl); (focus rfl); (focus rfl); (focus (first | exact bne_self_eq_false _ | rfl))) | (apply P_sadd; (focus rfl); (focus rfl); (focus omega)) | (apply P_max; (focus rfl); (focus rfl)) | (apply P_min; (focus rfl); (focus rfl)) | (apply P_idx1; (focus rfl); (focus rfl); (focus rfl); (focus rfl); (focus rfl); (focus omega)) | (apply P_nilCheck; (focus rfl)) | (apply P_conv; (focus rfl); (focus rfl); (focus rfl); (focus (first | assumption | exact wi64 (by omega) (by omega) | exact wu64 (by omega) (by omega) | exact wi32 (by omega) (by omega) | exact wu8 (by omega) (by omega) | rfl))) | (apply P_sindex0; (focus rfl); (focus rfl); (focus rfl); (focus omega)) | (apply P_sindexN; (focus rfl); (focus rfl); (focus rfl); (focus omega)) | (apply P_sindex; (focus rfl); (focus rfl); (focus rfl); (focus omega); (focus omega)) | (apply P_makeFunc; (focus (repeat constructor)); (focus (repeat constructor))) | (apply P_seq_t; (focus rfl); (focus rfl); (focus (first | assumption | rfl))) | (apply P_seq_f; (focus rfl); (focus rfl); (focus assumption)) | (apply P_sne_t; (focus rfl); (focus rfl); (focus assumption)) | (apply P_sne_f; (focus rfl); (focus rfl); (focus (first | assumption | rfl))))); (focus rfl))))
  refine W_cut (α := Nat × Int × Array Int) (fun (p, hint, _) => (11, .int .i64 (p : Int)) :: (12, .int .i64 hint) :: ((10, .int .i64 (((a + L : Nat) : Int) - (a : Int))) :: [(0, .slice (some ⟨b, 0, none⟩) m c), (1, .int .i64 (a : Int)), (2, .int .i64 ((a + L : Nat) : Int)), (3, .int .i64 lim), (8, .bool wb), (9, .bool wp)])) (fun (p, hint, k2) A => (a ≤ p ∧ p < a + L) ∧ PermIn a (a + L) k k2 ∧ Arr A b k2 post ∧ Chg [b] w A) ?_ ?_
  · by_cases h2 : hint = 2
    · subst h2
      (refine Ga ?_)
      (apply Lst_call; (focus rfl); (focus rfl))
      refine (c_rev b a L m c k1 post hks1.symm (by omega) (by omega) (by omega) A2 hA2).mono ?_
      rintro v A3 ⟨rfl, hA3, hc4⟩
      have hp2 := Go.Sort.reverseRange_holds k1 a (a + L) (by omega) (by omega)
      (refine Ga ?_)
      refine cutQ_n ((a + L - 1) - (p - a), 1, Go.Sort.reverseRange k1 a (a + L)) ⟨⟨by omega, by omega⟩, Go.Sort.permIn_trans _ _ _ _ _ hp1 hp2, hA3, hc3.trans hc4⟩ ⟨?_, rfl, rfl, rfl, rfl, rfl, rfl, rfl, rfl, trivial⟩
      show Value.int .i64 (((a + L : Nat) : Int) - 1 - ((p : Int) - (a : Int))) = Value.int .i64 (((a + L - 1) - (p - a) : Nat) : Int)
      congr 1
      omega
    · (refine Ga ?_)
      exact cutQ_n (p, hint, k1) ⟨hpv, hp1, hA2, hc3⟩ ⟨rfl, rfl, rfl, rfl, rfl, rfl, rfl, rfl, rfl, trivial⟩
  clear hA2 hc3 hpv hhint hp1 hks1 k1 p hint
  rintro J2 ⟨p, hint, k2⟩ A ⟨hpv, hp2, hA, hc⟩
  have hks2 : k2.size = m := hp2.1.trans hks
  have hB2 := hB.perm (by omega) hp2
  refine W_cut (α := Array Int) (fun _ => (11, .int .i64 (p : Int)) :: ((10, .int .i64 (((a + L : Nat) : Int) - (a : Int))) :: [(0, .slice (some ⟨b, 0, none⟩) m c), (1, .int .i64 (a : Int)), (2, .int .i64 ((a + L : Nat) : Int)), (3, .int .i64 lim), (8, .bool wb), (9, .bool wp)])) (fun k3 A => PermIn a (a + L) k k3 ∧ Arr A b k3 post ∧ Chg [b] w A) ?_ ?_
  · by_cases hcond : wb = true ∧ wp = true ∧ hint = 1
    · obtain ⟨rfl, rfl, rfl⟩ := hcond
      (refine Ga ?_)
      (apply Lst_call; (focus rfl); (focus rfl))
      refine (c_partial b a L m c k2 post hks2.symm (by omega) (by omega) (by omega) A hA).mono ?_
      rintro v A2 ⟨rfl, hA2, hc2⟩
      have hpi := Go.Sort.partialInsertionSort_holds Go.Sort.swo_ltInt k2 a (a + L) (by omega) (by omega) hB2
      generalize Go.Sort.partialInsertionSort ltInt k2 a (a + L) = R at *
      obtain ⟨k3, r⟩ := R
      dsimp only at hpi hA2 ⊢
      rcases r with _ | _
      · (refine Ga ?_)
        exact cutQ_n k3 ⟨Go.Sort.permIn_trans _ _ _ _ _ hp2 hpi.1, hA2, hc.trans hc2⟩ ⟨rfl, rfl, rfl, rfl, rfl, rfl, rfl, rfl, trivial⟩
      · have hp : PermIn a (a + L) k k3 ∧ SortedIn ltInt a (a + L) k3 := ⟨Go.Sort.permIn_trans _ _ _ _ _ hp2 hpi.1, hpi.2 rfl⟩
        (refine Ga ?_)
        have hfin := hF _ hp.1 hp.2
        (first | apply retQ0n | apply retQ0)
        exact ⟨rfl, _, hA2, hfin.1, hfin.2, hc.trans hc2⟩
    · rcases wb with _ | _
      · (refine Ga ?_)
        exact cutQ_n k2 ⟨hp2, hA, hc⟩ ⟨rfl, rfl, rfl, rfl, rfl, rfl, rfl, rfl, trivial⟩
      · rcases wp with _ | _
        · (refine Ga ?_)
          exact cutQ_n k2 ⟨hp2, hA, hc⟩ ⟨rfl, rfl, rfl, rfl, rfl, rfl, rfl, rfl, trivial⟩
        · have hne : ¬ hint = 1 := fun e => hcond ⟨rfl, rfl, e⟩
          (refine Ga ?_)
          exact cutQ_n k2 ⟨hp2, hA, hc⟩ ⟨rfl, rfl, rfl, rfl, rfl, rfl, rfl, rfl, trivial⟩
  clear hA hc hB2 hks2 hp2 k2
  rintro J3 k3 A ⟨hp3, hA, hc⟩
  have hks3 : k3.size = m := hp3.1.trans hks
  have hB3 := hB.perm (by omega) hp3
  refine W_cut (α := Unit) (fun _ => (11, .int .i64 (p : Int)) :: ((10, .int .i64 (((a + L : Nat) : Int) - (a : Int))) :: [(0, .slice (some ⟨b, 0, none⟩) m c), (1, .int .i64 (a : Int)), (2, .int .i64 ((a + L : Nat) : Int)), (3, .int .i64 lim), (8, .bool wb), (9, .bool wp)])) (fun _ A => Arr A b k3 post ∧ Chg [b] w A) ?_ ?_
  · by_cases ha0 : a = 0
    · (refine Ga ?_)
      have hAd := Blk.drew hA
      refine W_draws (fun A' => A' = World.drew A) rfl (by kernel_rfl) rfl ?_
      (refine Qa ?_)
      rintro A' rfl
      have hcd := hc.drew
      clear hA hc
      have hA := hAd
      have hc := hcd
      clear hAd hcd
      generalize A.drew = A at *
      (refine Ga ?_)
      exact cutQ_n () ⟨hA, hc⟩ ⟨rfl, rfl, rfl, rfl, rfl, rfl, rfl, rfl, trivial⟩
    · have hAd : Arr A.drew b k3 post := Blk.drew hA
      have c1 := hAd.cell (a - 1) (by omega) (0 + ((a : Int) - 1).toNat) (by omega)
      have c2 := hAd.cell p (by omega) (0 + p) (by omega)
      have hless := fun A => c_Less k3[a - 1]! k3[p]! A
      (refine Ga ?_)
      rcases hl : ltInt k3[a - 1]! k3[p]! with _ | _
      · rw [hl] at hless
        refine W_draws (fun A' => A' = World.drew A) rfl (by kernel_rfl) rfl ?_
        (refine Qa ?_)
        apply Qst_call (.bool false)
        focus rfl
        focus rfl
        · rintro _ rfl
          exact (hless _).mono fun v w' h => ⟨h.1, h.2.symm⟩
        (refine Qa ?_)
        rintro A' rfl
        clear c1 c2 hless
        have hcd := hc.drew
        clear hA hc
        have hA := hAd
        have hc := hcd
        clear hAd hcd
        generalize A.drew = A at *
        (refine Ga ?_)
        (apply Lst_call; (focus rfl); (focus rfl))
        refine (c_parteq b a L p m c k3 post hks3.symm (by omega) (by omega) hpv.2 (by omega) A hA).mono ?_
        rintro v A2 ⟨rfl, hA2, hc2⟩
        have hre := Go.Sort.round_eq Go.Sort.swo_ltInt (Go.Sort.partitionEqual_holds ltInt) (by omega) hpv.1 hpv.2 (by omega) hB3 hl (d4 := (Go.Sort.partitionEqual ltInt k3 a (a + L) p).2) (mid := (Go.Sort.partitionEqual ltInt k3 a (a + L) p).1) rfl
        generalize Go.Sort.partitionEqual ltInt k3 a (a + L) p = R at *
        obtain ⟨mid, k4⟩ := R
        dsimp only at hre hA2 ⊢
        obtain ⟨q1, q2, q3, q4, q5⟩ := hre
        have hM2 : mid + (a + L - mid) = a + L := by omega
        (refine Ga ?_)
        refine rndQ_n (α := Nat × Nat × Int × Bool × Bool × Array Int) (mid, a + L - mid, lim, wb, wp, k4) ?_ ⟨rfl, rfl, ?_, rfl, rfl, rfl, trivial⟩ (by dsimp only; omega)
        · dsimp only
          rw [hM2]
          refine ⟨by omega, hlim, by omega, q3.trans hks3, q4, fun R h1 h2 => ?_, hA2, hc.trans hc2⟩
          have := q5 R h1 h2
          exact hF R (Go.Sort.permIn_trans _ _ _ _ _ hp3 this.1) this.2
        · dsimp only
          rw [hM2]
          rfl
      · rw [hl] at hless
        refine W_draws (fun A' => A' = World.drew A) rfl (by kernel_rfl) rfl ?_
        (refine Qa ?_)
        apply Qst_call (.bool true)
        focus rfl
        focus rfl
        · rintro _ rfl
          exact (hless _).mono fun v w' h => ⟨h.1, h.2.symm⟩
        (refine Qa ?_)
        rintro A' rfl
        clear c1 c2 hless
        have hcd := hc.drew
        clear hA hc
        have hA := hAd
        have hc := hcd
        clear hAd hcd
        generalize A.drew = A at *
        (refine Ga ?_)
        exact cutQ_n () ⟨hA, hc⟩ ⟨rfl, rfl, rfl, rfl, rfl, rfl, rfl, rfl, trivial⟩
  clear hA hc
  rintro J4 ⟨⟩ A ⟨hA, hc⟩
  (refine Ga ?_)
  (apply Lst_call; (focus rfl); (focus rfl))
  refine (c_part b a L p m c k3 post hks3.symm (by omega) (by omega) hpv.2 (by omega) A hA).mono ?_
  rintro v A2 ⟨rfl, hA2, hc2⟩
  have hrp := Go.Sort.round_part Go.Sort.swo_ltInt (Go.Sort.partition_holds ltInt) hpv.1 hpv.2 (by omega) hB3 (d4 := (Go.Sort.partition ltInt k3 a (a + L) p).2.2) (ap := (Go.Sort.partition ltInt k3 a (a + L) p).2.1) (mid := (Go.Sort.partition ltInt k3 a (a + L) p).1) rfl
  have hc3 := hc.trans hc2
  clear hA hc hc2
  generalize Go.Sort.partition ltInt k3 a (a + L) p = R at *
  obtain ⟨mid, ap, k4⟩ := R
  dsimp only at hrp hA2 ⊢
  obtain ⟨q1, q2, q3, q4, q5, q6, q7⟩ := hrp
  have hq8 : IntKind.i64.wrap ((((a + L : Nat) : Int) - (a : Int)).tdiv 8) = ((L / 8 : Nat) : Int) := by
    rw [show ((a + L : Nat) : Int) - (a : Int) = ((L : Nat) : Int) by omega]
    have e : ((L : Nat) : Int).tdiv 8 = ((L / 8 : Nat) : Int) := rfl
    rw [e]
    exact wi64 (by omega) (by omega)
  by_cases hlt : mid - a < a + L - mid
  · by_cases h8 : L / 8 ≤ mid - a
    · skip
      (refine Ga ?_)
      have hM2 : a + (mid - a) = mid := by omega
      have hM3 : mid + 1 + (a + L - (mid + 1)) = a + L := by omega
      (apply Lst_call; (focus rfl); (focus rfl))
      refine (ih (mid - a) (by omega) a lim k4 _ _ A2 rfl (by rw [hM2]) hlim.1 hlim.2 (by omega) (q3.trans hks3) (by rw [hM2]; exact q4) hA2).mono ?_
      rw [hM2]
      rintro v A3 ⟨rfl, k5, hA3, hp5, hs5, hc5⟩
      obtain ⟨r1, r2⟩ := q6 k5 hp5 hs5
      (refine Ga ?_)
      refine rndQ_n (α := Nat × Nat × Int × Bool × Bool × Array Int) (mid + 1, a + L - (mid + 1), lim, true, ap, k5) ?_ ⟨rfl, ?_, ?_, rfl, rfl, rfl, trivial⟩ (by dsimp only; omega)
      · dsimp only
        rw [hM3]
        refine ⟨by omega, hlim, by omega, hp5.1.trans (q3.trans hks3), r1, fun R h1 h2 => ?_, hA3, hc3.trans hc5⟩
        have := r2 R h1 h2
        exact hF R (Go.Sort.permIn_trans _ _ _ _ _ hp3 this.1) this.2
      · show Value.int .i64 ((mid : Int) + 1) = Value.int .i64 ((mid + 1 : Nat) : Int)
        rw [Int.natCast_add]; rfl
      · dsimp only
        rw [hM3]
        rfl
    · skip
      (refine Ga ?_)
      have hM2 : a + (mid - a) = mid := by omega
      have hM3 : mid + 1 + (a + L - (mid + 1)) = a + L := by omega
      (apply Lst_call; (focus rfl); (focus rfl))
      refine (ih (mid - a) (by omega) a lim k4 _ _ A2 rfl (by rw [hM2]) hlim.1 hlim.2 (by omega) (q3.trans hks3) (by rw [hM2]; exact q4) hA2).mono ?_
      rw [hM2]
      rintro v A3 ⟨rfl, k5, hA3, hp5, hs5, hc5⟩
      obtain ⟨r1, r2⟩ := q6 k5 hp5 hs5
      (refine Ga ?_)
      refine rndQ_n (α := Nat × Nat × Int × Bool × Bool × Array Int) (mid + 1, a + L - (mid + 1), lim, false, ap, k5) ?_ ⟨rfl, ?_, ?_, rfl, rfl, rfl, trivial⟩ (by dsimp only; omega)
      · dsimp only
        rw [hM3]
        refine ⟨by omega, hlim, by omega, hp5.1.trans (q3.trans hks3), r1, fun R h1 h2 => ?_, hA3, hc3.trans hc5⟩
        have := r2 R h1 h2
        exact hF R (Go.Sort.permIn_trans _ _ _ _ _ hp3 this.1) this.2
      · show Value.int .i64 ((mid : Int) + 1) = Value.int .i64 ((mid + 1 : Nat) : Int)
        rw [Int.natCast_add]; rfl
      · dsimp only
        rw [hM3]
        rfl
  · by_cases h8 : L / 8 ≤ a + L - mid
    · skip
      (refine Ga ?_)
      have hM2 : a + (mid - a) = mid := by omega
      have hM3 : mid + 1 + (a + L - (mid + 1)) = a + L := by omega
      (apply Lst_call; (focus rfl); (focus rfl))
      refine (ih (a + L - (mid + 1)) (by omega) (mid + 1) lim k4 _ _ A2 (by omega) (by rw [hM3]) hlim.1 hlim.2 (by omega) (q3.trans hks3) (by rw [hM3]; exact q5) hA2).mono ?_
      rw [hM3]
      rintro v A3 ⟨rfl, k5, hA3, hp5, hs5, hc5⟩
      obtain ⟨r1, r2⟩ := q7 k5 hp5 hs5
      (refine Ga ?_)
      refine rndQ_n (α := Nat × Nat × Int × Bool × Bool × Array Int) (a, mid - a, lim, true, ap, k5) ?_ ⟨rfl, rfl, ?_, rfl, rfl, rfl, trivial⟩ (by dsimp only; omega)
      · dsimp only
        rw [hM2]
        refine ⟨by omega, hlim, by omega, hp5.1.trans (q3.trans hks3), r1, fun R h1 h2 => ?_, hA3, hc3.trans hc5⟩
        have := r2 R h1 h2
        exact hF R (Go.Sort.permIn_trans _ _ _ _ _ hp3 this.1) this.2
      · dsimp only
        rw [hM2]
        rfl
    · skip
      (refine Ga ?_)
      have hM2 : a + (mid - a) = mid := by omega
      have hM3 : mid + 1 + (a + L - (mid + 1)) = a + L := by omega
      (apply Lst_call; (focus rfl); (focus rfl))
      refine (ih (a + L - (mid + 1)) (by omega) (mid + 1) lim k4 _ _ A2 (by omega) (by rw [hM3]) hlim.1 hlim.2 (by omega) (q3.trans hks3) (by rw [hM3]; exact q5) hA2).mono ?_
      rw [hM3]
      rintro v A3 ⟨rfl, k5, hA3, hp5, hs5, hc5⟩
      obtain ⟨r1, r2⟩ := q7 k5 hp5 hs5
      (refine Ga ?_)
      refine rndQ_n (α := Nat × Nat × Int × Bool × Bool × Array Int) (a, mid - a, lim, false, ap, k5) ?_ ⟨rfl, rfl, ?_, rfl, rfl, rfl, trivial⟩ (by dsimp only; omega)
      · dsimp only
        rw [hM2]
        refine ⟨by omega, hlim, by omega, hp5.1.trans (q3.trans hks3), r1, fun R h1 h2 => ?_, hA3, hc3.trans hc5⟩
        have := r2 R h1 h2
        exact hF R (Go.Sort.permIn_trans _ _ _ _ _ hp3 this.1) this.2
      · dsimp only
        rw [hM2]
        rfl
end So
namespace So
open Go Go.RowKit Sx
open Go.Sort (ltInt PermIn SortedIn)
/-- The keys, sorted. -/
def sorted (zs : List Int) : List Int := zs.mergeSort fun x y => decide (x ≤ y)
theorem sorted_of {d d' : Array Int} (hp : PermIn 0 d.size d d') (hs : SortedIn ltInt 0 d.size d') : d'.toList = sorted d.toList := by
  have h := Go.Sort.sorted_unique_holds Go.Sort.swo_ltInt (fun x y h1 h2 => by simp only [ltInt, decide_eq_false_iff_not] at h1 h2; omega) d d' hp hs
  rw [h]
  unfold sorted
  congr 1
  funext x y
  show (!decide (y < x)) = decide (x ≤ y)
  by_cases h : x ≤ y
  · simp [h]
  · simp [h]
    omega
theorem perm_eraseIdx {β : Type} : ∀ (l : List β) (j : Nat) (h : j < l.length), (l[j] :: l.eraseIdx j).Perm l
  | x :: l, 0, _ => List.Perm.refl _
  | x :: l, j + 1, h => by
    have ih := perm_eraseIdx l j (by simpa using h)
    exact (List.Perm.swap _ _ _).trans (ih.cons x)
  | [], _, h => by simp at h
theorem len8_0 : sb len8T 0 = 0 := by decide +kernel
theorem calmW_chg {B ib : Nat} {A A' : World} {o : Obj} (hc : Chg [ib] A A') (ho : A.heap[ib]? = some o) (hw : o.isWalk = true) (hB : B ≤ ib) : CalmW B A A' :=
  ⟨hc.os, hc.tape, hc.output, hc.size, fun r x hx hr => by
    by_cases e : r = ib
    · subst e
      rw [ho] at hx
      cases hx
      rcases hr with hr | hr
      · omega
      · rw [hw] at hr; cases hr
    · exact (hc.block r (lt_of_some hx) (by simpa using e)).trans hx⟩
attribute [local irreducible] W Lst Qst Pu seqQ blkQ rndQ cutQ retQ Does Enters IntKind.wrap bits sb World.alloc World.putObj Blk
theorem c_Len64_0 (w : World) : Does Try.prog 87 #[.int .u64 0] w fun v w' => v = .int .i64 0 ∧ w = w' := by
  refine Does_of (args := [.int .u64 0]) Try.func87 (by kernel_rfl) rfl rfl rfl rfl rfl ?_
  have hw8 : IntKind.u8.wrap (0 : Int) = (0 : Int) := wu8 (by omega) (by omega)
  have hsz8 : len8T.size = 256 := by decide +kernel
  (refine Ga ?_)
  apply Lst_pu
  · apply P_sindex (s := len8T)
    focus exact congrArg Value.string (by kernel_rfl)
    focus rfl
    focus rfl
    focus omega
    focus (rw [hsz8]; omega)
  focus rfl
  rw [show ((0 : Int)).toNat = 0 from rfl, len8_0]
  (refine Ga ?_)
  (apply retQ1; (focus rfl))
  exact ⟨rfl, rfl⟩
theorem c_LenAny (n : Nat) (h2 : n < 4611686018427387904) (w : World) :
    Does Try.prog 75 #[.int .u64 (n : Int)] w fun v w' => (∃ r : Nat, v = .int .i64 (r : Int) ∧ r ≤ 63) ∧ w = w' := by
  rcases Nat.eq_zero_or_pos n with rfl | h1
  · refine Does_of (args := [.int .u64 0]) Try.func75 (by kernel_rfl) rfl rfl rfl rfl rfl ?_
    (refine Ga ?_)
    (apply Lst_call; (focus rfl); (focus rfl))
    refine (c_Len64_0 w).mono ?_
    rintro v w' ⟨rfl, rfl⟩
    (refine Ga ?_)
    (apply retQ1; (focus rfl))
    exact ⟨⟨0, rfl, by omega⟩, rfl⟩
  · refine (c_Len n h1 h2 w).mono ?_
    rintro v w' ⟨⟨r, rfl, hr1, hr2⟩, rfl⟩
    refine ⟨⟨r, rfl, ?_⟩, rfl⟩
    rcases Nat.lt_or_ge r 64 with h | h
    · omega
    · have := Nat.pow_le_pow_right (n := 2) (by omega) h
      omega
theorem c_Sort (b c : Nat) (d : Array Int) (post : List Value) (hsz : d.size < 1152921504606846976) (w : World) (h : Arr w b d post) :
    Does Try.prog 68 #[.slice (some ⟨b, 0, none⟩) d.size c] w fun v w' => v = .tuple #[] ∧ ∃ d', Arr w' b d' post ∧ d'.toList = sorted d.toList ∧ Chg [b] w w' := by
  refine Does_of (args := [.slice (some ⟨b, 0, none⟩) d.size c]) Try.func68 (by kernel_rfl) rfl rfl rfl rfl rfl ?_
  (refine Ga ?_)
  (apply Lst_call; (focus rfl); (focus rfl))
  refine (c_LenAny d.size (by omega) w).mono ?_
  rintro v w' ⟨⟨r, rfl, hr⟩, rfl⟩
  (refine Ga ?_)
  (apply Lst_call; (focus rfl); (focus rfl))
  refine (c_pdq b d.size c post hsz (d.size + 1) d.size (Nat.lt_succ_self _) 0 r d 0 _ w rfl (by rw [Nat.zero_add]) (by omega) (by omega) (by omega) rfl (.inl rfl) h).mono ?_
  rintro v w1 ⟨rfl, d', hA, hp, hs, hc⟩
  rw [Nat.zero_add] at hp hs
  (refine Ga ?_)
  apply retQ0n
  exact ⟨rfl, d', hA, sorted_of hp hs, hc⟩
theorem c_ins_nil (w : World) : Does Try.prog 77 #[.slice none 0 0, .int .i64 0, .int .i64 0] w fun v w' => v = .tuple #[] ∧ w = w' := by
  refine Does_of (args := [.slice none 0 0, .int .i64 0, .int .i64 0]) Try.func77 (by kernel_rfl) rfl rfl rfl rfl rfl ?_
  (refine Ga ?_)
  refine W_loop (α := Unit) (fun _ => [(2, .int .i64 0), (6, .int .i64 1)]) (fun _ A => w = A) (fun _ _ => 0) () rfl ⟨rfl, rfl, trivial⟩ ?_
  rintro J _ A rfl
  (refine Ga ?_)
  apply retQ0n
  exact ⟨rfl, rfl⟩
theorem c_pdq_nil (r : Int) (w : World) : Does Try.prog 74 #[.slice none 0 0, .int .i64 0, .int .i64 0, .int .i64 r] w fun v w' => v = .tuple #[] ∧ w = w' := by
  refine Does_of (args := [.slice none 0 0, .int .i64 0, .int .i64 0, .int .i64 r]) Try.func74 (by kernel_rfl) rfl rfl rfl rfl rfl ?_
  (refine Ga ?_)
  refine W_loop (α := Unit) (fun _ => [(0, .slice none 0 0), (1, .int .i64 0), (2, .int .i64 0)]) (fun _ A => w = A) (fun _ _ => 0) () rfl ⟨rfl, rfl, rfl, trivial⟩ ?_
  rintro J _ A rfl
  (refine Ga ?_)
  (apply Lst_call; (focus rfl); (focus rfl))
  refine (c_ins_nil w).mono ?_
  rintro v w' ⟨rfl, rfl⟩
  (refine Ga ?_)
  (first | apply retQ0n | apply retQ0)
  exact ⟨rfl, rfl⟩
theorem c_Sort_nil (w : World) : Does Try.prog 68 #[.slice none 0 0] w fun v w' => v = .tuple #[] ∧ w = w' := by
  refine Does_of (args := [.slice none 0 0]) Try.func68 (by kernel_rfl) rfl rfl rfl rfl rfl ?_
  (refine Ga ?_)
  (apply Lst_call; (focus rfl); (focus rfl))
  refine (c_LenAny 0 (by omega) w).mono ?_
  rintro v w' ⟨⟨r, rfl, hr⟩, rfl⟩
  (refine Ga ?_)
  (apply Lst_call; (focus rfl); (focus rfl))
  refine (c_pdq_nil r w).mono ?_
  rintro v w' ⟨rfl, rfl⟩
  (refine Ga ?_)
  apply retQ0n
  exact ⟨rfl, rfl⟩
theorem g_Keys {α : Type} (Bx mb : Nat) (R : Value → α → Prop) (es : List (Int × α)) (w : World) (hB : Blk w Bx [.map (some mb)] 70) (hmp : SxU.MpAt w mb R es) :
    GivesL Try.prog 69 #[.pointer (some ⟨Bx, 0, none⟩)] (fun k : Int => [Value.int .u64 k].toArray) (fun s _ => s.length < es.length) (fun s => s.Perm (es.map (·.1))) KeepsWalks w := by
  intro l J W1 hb1 hJ hY h0
  have hB1 := hB.below hb1 hB.lt
  have hmp1 : SxU.MpAt W1 mb R es := hmp.mono (hb1.block _ hmp.lt) (fun _ _ h => h)
  have hd : Does Try.prog 69 #[.func (.yield l) #[] #[], .pointer (some ⟨Bx, 0, none⟩)] W1 fun v A' => ∃ s, s.Perm (es.map (·.1)) ∧ J s A' := by
    refine Does_of (args := [.func (.yield l) #[] #[], .pointer (some ⟨Bx, 0, none⟩)]) Try.func69 (by kernel_rfl) rfl rfl rfl rfl rfl ?_
    (refine Ga ?_)
    refine SxU.Lst_maprange rfl rfl hmp1 rfl ?_
    intro W2 hit hb2 hs2
    have h2 := hJ _ _ _ h0 (Below.calmW hb2 (Nat.le_refl _))
    (refine Ga ?_)
    refine W_loop (α := List Int × List (Int × α)) (fun _ => [(0, .func (.yield l) #[] #[]), (5, .pointer (some ⟨W1.heap.size, 0, none⟩))])
      (fun x A => (x.1 ++ x.2.map (·.1)).Perm (es.map (·.1)) ∧ J x.1 A ∧ SxU.ItAt A W1.heap.size mb R es x.2) (fun x _ => x.2.length) ([], es) ⟨List.Perm.refl _, h2, hit⟩ ⟨rfl, rfl, trivial⟩ ?_
    clear h2 hit h0
    rintro K ⟨s, left⟩ A ⟨hp, hj, hit⟩
    dsimp only at hp hj hit ⊢
    (refine Ga ?_)
    refine SxU.Lst_mapnext rfl hit rfl ?_ ?_
    · rintro rfl
      (refine Ga ?_)
      apply retQ0n
      exact ⟨s, by simpa using hp, hj⟩
    · intro j q v A1 hq hR hit1 hcur hc1 hs1
      have hio : ∃ o, A.heap[W1.heap.size]? = some o ∧ o.isWalk = true := by
        obtain ⟨arr, clock, seen, _, _, _, h4, _⟩ := hit
        exact ⟨_, h4, rfl⟩
      obtain ⟨o, ho, hw⟩ := hio
      have hj1 := hJ _ _ _ hj (calmW_chg hc1 ho hw (Nat.le_refl _))
      have hjl : j < left.length := (List.getElem?_eq_some_iff.1 hq).1
      have hlen : s.length < es.length := by
        have := hp.length_eq
        simp only [List.length_append, List.length_map] at this
        omega
      have hy := hY s q.1 A1 hlen hj1
      (refine Ga ?_)
      refine SxU.Lst_mapentry rfl hcur rfl ?_
      intro v2 _
      (refine Ga ?_)
      refine Lst_yield rfl rfl ?_
      obtain ⟨fn, tmps, assign, body, y1, y2⟩ := hy
      refine ⟨fn, tmps, assign, body, y1, y2.mono ?_⟩
      rintro e A' ⟨rfl, hj', hkp⟩
      refine ⟨_, rfl, ?_⟩
      have hit2 : SxU.ItAt A' W1.heap.size mb R es (left.eraseIdx j) := by
        obtain ⟨arr, clock, seen, a1, a2, a3, a4, a5⟩ := hit1
        exact ⟨arr, clock, seen, hkp.same _ _ a1 rfl, a2, a3, hkp.same _ _ a4 rfl, a5⟩
      (refine Ga ?_)
      refine rndQ_n (α := List Int × List (Int × α)) (s ++ [q.1], left.eraseIdx j) ⟨?_, hj', hit2⟩ ⟨rfl, rfl, trivial⟩ (by dsimp only; rw [List.length_eraseIdx_of_lt hjl]; omega)
      dsimp only
      refine List.Perm.trans ?_ hp
      rw [List.append_assoc]
      refine List.Perm.append_left s ?_
      have hq2 : left[j] = q := by
        have := List.getElem?_eq_getElem hjl
        rw [hq] at this
        exact (Option.some.inj this).symm
      have hperm := (perm_eraseIdx left j hjl).map (·.1)
      rw [hq2] at hperm
      simpa using hperm
  unfold Does at hd
  refine hd.2.mono ?_
  rintro e A ⟨v, rfl, h⟩
  exact ⟨⟨_, rfl⟩, h⟩
end So
namespace So
open Go Go.RowKit Sx
open Go.Sort (ltInt PermIn SortedIn)
theorem GivesL.later {β : Type} {P : Program} {gf : Nat} {lb : Array Value} {enc : β → Array Value} {B : List β → β → Prop} {S : List β → Prop} {Kp : World → World → Prop} {w w' : World} (h : GivesL P gf lb enc B S Kp w) (hb : Below w.heap.size w w') : GivesL P gf lb enc B S Kp w' :=
  fun l J W1 hb1 hJ hY h0 => h l J W1 (hb.trans (hb1.mono hb.size)) hJ hY h0
theorem walksK_t {A B C : World} (h : KeepsWalks A B) (k : KeepsWalks B C) : KeepsWalks A C := h.trans k
theorem kw_put {w : World} (A : World) (l : Nat) (r r' : Loop) (_ : w.heap.size ≤ l) (h : A.heap[l]? = some (.loop r)) : KeepsWalks A (A.putObj l (.loop r')) := KeepsWalks.putObj _ h rfl
theorem bodyL_n {β : Type} {B : Nat} {I : List β → World → Prop} {s : List β} {x : β} {A A' : World} {F : Fr} {ds : List Deferred} (hk : KeepsOthers A A') (h : I (s ++ [x]) A') : bodyL B KeepsWalks I s x A .normal F ds A' := ⟨hk.from B, hk.walks, h⟩
theorem own_notblk {w : World} {B b nn : Nat} {e : TypeId} {v : Value} {xs : List Value} {o : Obj} (h : w.ownsRow B e 1 v nn xs) (ho : w.heap[b]? = some o) (hc : o.isCells = false) : v.ownBlock ≠ some b := by
  intro he
  obtain ⟨_, ⟨rfl, _⟩ | ⟨g, cap, cur, rfl, _, hg, _⟩⟩ := h
  · simp [Value.ownBlock] at he
  · simp only [Value.ownBlock, Option.some.injEq] at he
    subst he
    rw [hg] at ho
    cases ho
    simp [Obj.isCells] at hc
theorem own_putb {w : World} {B b nn : Nat} {e : TypeId} {v : Value} {xs : List Value} (h : w.ownsRow B e 1 v nn xs) (hne : v.ownBlock ≠ some b) (o : Obj) : (w.putObj b o).ownsRow B e 1 v nn xs := by
  refine ⟨h.1, ?_⟩
  rcases h.2 with ⟨rfl, hn⟩ | ⟨g, cap, cur, rfl, hb, hg, h1, h2, h3, h4⟩
  · exact .inl ⟨rfl, hn⟩
  · refine .inr ⟨g, cap, cur, rfl, hb, ?_, h1, h2, h3, h4⟩
    exact (World.putObj_heap_other (by intro e; apply hne; rw [← e]; rfl)).trans hg
theorem own_base {w : World} {B B' nn : Nat} {e : TypeId} {v : Value} {xs : List Value} (h : w.ownsRow B e 1 v nn xs) (hb : B' ≤ B) : w.ownsRow B' e 1 v nn xs := by
  refine ⟨h.1, ?_⟩
  rcases h.2 with h | ⟨g, cap, cur, hv, hg, h⟩
  · exact .inl h
  · exact .inr ⟨g, cap, cur, hv, by omega, h⟩
theorem sorted_perm {l l' : List Int} (h : l.Perm l') : sorted l = sorted l' := by
  have tr : ∀ a b c : Int, decide (a ≤ b) = true → decide (b ≤ c) = true → decide (a ≤ c) = true := fun a b c h1 h2 => by simp only [decide_eq_true_eq] at *; exact Int.le_trans h1 h2
  have to : ∀ a b : Int, (decide (a ≤ b) || decide (b ≤ a)) = true := fun a b => by simp only [Bool.or_eq_true, decide_eq_true_eq]; exact Int.le_total a b
  refine List.Perm.eq_of_pairwise (le := fun a b => decide (a ≤ b) = true) (fun a b _ _ h1 h2 => ?_) (List.pairwise_mergeSort tr to l) (List.pairwise_mergeSort tr to l') (((List.mergeSort_perm l _).trans h).trans (List.mergeSort_perm l' _).symm)
  simp only [decide_eq_true_eq] at h1 h2
  exact Int.le_antisymm h1 h2
attribute [local irreducible] W Lst Qst Pu seqQ blkQ rndQ cutQ retQ Does Enters IntKind.wrap bits sb World.alloc World.putObj Blk
theorem c_AppendSeq (gf : Nat) (lb : Array Value) (N : Nat) (hN : N ≤ 100000000) (S : List Int → Prop) (w : World) (hen : Enters Try.prog gf) (hseq : GivesL Try.prog gf lb (fun k : Int => [Value.int .u64 k].toArray) (fun s _ => s.length < N) S KeepsWalks w) :
    Does Try.prog 73 #[.slice none 0 0, .func (.func gf) #[] lb] w fun v w' => ∃ s, S s ∧ w'.ownsRow w.heap.size 27 1 v s.length (s.map (.int .u64)) ∧ Below w.heap.size w w' := by
  refine Does_of_marks (args := [.slice none 0 0, .func (.func gf) #[] lb]) Try.func73 (by kernel_rfl) rfl rfl rfl rfl rfl ?_
  (refine Ga ?_)
  have hb0 : Below w.heap.size w (w.alloc (.cells [.slice none 0 0].toArray 93)) := Bel
  have hB0 : Blk (w.alloc (.cells [.slice none 0 0].toArray 93)) w.heap.size [.slice none 0 0] 93 := (by (repeat (first | assumption | (apply Blk.below (hb := hb1); rotate_left; (focus ((try simp only [Sx.sizes]); omega)); rotate_right) | (apply Blk.below (hb := hb2); rotate_left; (focus ((try simp only [Sx.sizes]); omega)); rotate_right) | (apply Blk.below (hb := hb3); rotate_left; (focus ((try simp only [Sx.sizes]); omega)); rotate_right) | (apply Blk.below (hb := hb4); rotate_left; (focus ((try simp only [Sx.sizes]); omega)); rotate_right) | (apply Blk.below (hb := hb5); rotate_left; (focus ((try simp only [Sx.sizes]); omega)); rotate_right) | (apply Blk.below (hb := hb6); rotate_left; (focus ((try simp only [Sx.sizes]); omega)); rotate_right) | (apply Blk.below (hb := hb7); rotate_left; (focus ((try simp only [Sx.sizes]); omega)); rotate_right) | (apply Blk.below (hb := hb8); rotate_left; (focus ((try simp only [Sx.sizes]); omega)); rotate_right) | (apply Blk.below (hb := hb9); rotate_left; (focus ((try simp only [Sx.sizes]); omega)); rotate_right) | exact Blk.newE (by first | rfl | ((try simp only [Sx.sizes]); first | done | omega)) _ _ | exact Blk.put_same (by (try simp only [Sx.sizes]); first | done | omega) _ _ | (apply Blk.put_ne; (focus omega)) | apply Blk.alloc | apply Blk.drew)); done)
  have hs0 : (w.alloc (.cells [.slice none 0 0].toArray 93)).heap.size = w.heap.size + 1 := by simp only [Sx.sizes]
  have hseq1 := GivesL.later hseq hb0
  generalize w.alloc (.cells [.slice none 0 0].toArray 93) = W at *
  generalize hob : w.heap.size = ob at *
  refine W_rangeL (β := Int) (fun k => [.int .u64 k]) (fun s _ => s.length < N) S KeepsWalks rfl hen rfl (fun _ => rfl) hseq1 walksK_t kw_put
    (fun s A => ∃ sv, Blk A ob [sv] 93 ∧ A.ownsRow (ob + 1) 27 1 sv s.length (s.map (.int .u64)) ∧ sv.ownBlock ≠ some ob ∧ Below ob w A)
    (fun s A A' ⟨sv, h1, h2, h3, h4⟩ hc => ⟨sv, hc.blk h1, own_calm h2 hc, h3, hc.below h4 (by omega) (by omega)⟩)
    ⟨.slice none 0 0, hB0, World.ownsRow_nil _ _ _ _, by simp [Value.ownBlock], hb0⟩
    (fun k => [(2, .pointer (some ⟨ob, 0, none⟩)), (5, .int .u64 k)]) ?_ ?_ ?_
  · intro l x A
    (refine Ga ?_)
    exact ⟨rfl, ⟨rfl, rfl, trivial⟩, rfl⟩
  · rintro l s x J A hs ⟨sv, h1, h2, h3, h4⟩
    obtain ⟨v1, v2, v3, rfl⟩ := own_slice h2
    have hs4 := h4.size
    have hl1 := h1.lt
    (refine Ga ?_)
    apply Lst_push (hown := h2) (bytes := 8)
    ((focus constructor); (focus rfl); (focus rfl); (focus rfl); (focus rfl); (focus rfl); (focus rfl); (focus rfl); (focus rfl); (focus rfl); (focus rfl); (focus simp [Value.oneCell']); (focus rfl); (focus rfl); (focus rfl); (focus rfl); (focus omega); (focus omega); (focus omega))
    intro v' A2 ho' hg _
    have hB2 := h1.grown hg (fun k hk e => h3 (by rw [hk, e]))
    have hl2 := hB2.lt
    have hb2 := Below.own h4 h2 hg (by omega) (by omega)
    have hk2 := KO.own (KeepsOthers.refl A) h2 hg
    obtain ⟨u1, u2, u3, rfl⟩ := own_slice ho'
    (refine Ga ?_)
    refine bodyL_n (KO.putO hk2 hB2 _ _) ⟨.slice u1 u2 u3, Blk.put_same hl2 _ _, ?_, ?_, Sx.Below.put hb2 (by omega) _⟩
    · rw [List.length_append, List.length_singleton, List.map_append]
      exact own_put ho' (by omega) _
    · intro e
      exact own_ne ho' (b := ob) (by omega) ob e rfl
  · rintro D s A hD hS ⟨sv, h1, h2, h3, h4⟩ hdef
    obtain ⟨v1, v2, v3, rfl⟩ := own_slice h2
    have hs4 := h4.size
    have hl1 := h1.lt
    (refine Ga ?_)
    refine retM1 hdef rfl ⟨s, hS, own_base (own_putb h2 (own_notblk h2 hdef rfl) _) (by omega), Sx.Below.put h4 (by omega) _⟩
theorem c_Collect (gf : Nat) (lb : Array Value) (N : Nat) (hN : N ≤ 100000000) (S : List Int → Prop) (w : World) (hen : Enters Try.prog gf) (hseq : GivesL Try.prog gf lb (fun k : Int => [Value.int .u64 k].toArray) (fun s _ => s.length < N) S KeepsWalks w) :
    Does Try.prog 67 #[.func (.func gf) #[] lb] w fun v w' => ∃ s, S s ∧ w'.ownsRow w.heap.size 27 1 v s.length (s.map (.int .u64)) ∧ Below w.heap.size w w' := by
  refine Does_of (args := [.func (.func gf) #[] lb]) Try.func67 (by kernel_rfl) rfl rfl rfl rfl rfl ?_
  (refine Ga ?_)
  (apply Lst_call; (focus rfl); (focus rfl))
  refine (c_AppendSeq gf lb N hN S w hen hseq).mono ?_
  rintro v w1 ⟨s, hS, ho, hb⟩
  obtain ⟨u1, u2, u3, rfl⟩ := own_slice ho
  (refine Ga ?_)
  (apply retQ1; (focus rfl))
  exact ⟨s, hS, ho, hb⟩
theorem c_Sorted (gf : Nat) (lb : Array Value) (N : Nat) (hN : N ≤ 100000000) (S : List Int → Prop) (hSN : ∀ s, S s → s.length ≤ N) (w : World) (hen : Enters Try.prog gf) (hseq : GivesL Try.prog gf lb (fun k : Int => [Value.int .u64 k].toArray) (fun s _ => s.length < N) S KeepsWalks w) :
    Does Try.prog 50 #[.func (.func gf) #[] lb] w fun v w' => ∃ s, S s ∧ w'.ownsRow w.heap.size 27 1 v s.length ((sorted s).map (.int .u64)) ∧ Below w.heap.size w w' := by
  refine Does_of (args := [.func (.func gf) #[] lb]) Try.func50 (by kernel_rfl) rfl rfl rfl rfl rfl ?_
  (refine Ga ?_)
  (apply Lst_call; (focus rfl); (focus rfl))
  refine (c_Collect gf lb N hN S w hen hseq).mono ?_
  rintro v w1 ⟨s, hS, ho, hb⟩
  have hsl := hSN s hS
  rcases ho.2 with ⟨rfl, hz⟩ | ⟨g, cap, cur, rfl, hg1, hg2, hc1, hcm, hc3, hc4⟩
  · have hs0 : s = [] := List.eq_nil_of_length_eq_zero hz
    subst hs0
    (refine Ga ?_)
    (apply Lst_call; (focus rfl); (focus rfl))
    refine (c_Sort_nil w1).mono ?_
    rintro v w' ⟨rfl, rfl⟩
    (refine Ga ?_)
    (apply retQ1; (focus rfl))
    have e0 : sorted [] = [] := by simp [sorted]
    exact ⟨[], hS, by rw [e0]; exact ho, hb⟩
  · have hA : Arr w1 g s.toArray (cur.toList.drop s.length) := by
      unfold Arr Blk us
      rw [Nat.mul_one] at hc4
      rw [← hc4, List.take_append_drop]
      exact hg2
    (refine Ga ?_)
    (apply Lst_call; (focus rfl); (focus rfl))
    have hc := c_Sort g cap s.toArray (cur.toList.drop s.length) (by simp; omega) w1 hA
    rw [show s.toArray.size = s.length from rfl] at hc
    refine hc.mono ?_
    rintro v w2 ⟨rfl, d', hA2, hd, hc2⟩
    (refine Ga ?_)
    (apply retQ1; (focus rfl))
    have hdl : d'.size = s.length := by
      have := congrArg List.length hd
      simpa [sorted] using this
    have hcl : cur.toList.length = cap := by rw [Array.length_toList]; omega
    refine ⟨s, hS, ⟨by simp [sorted], .inr ⟨g, cap, (us d' ++ cur.toList.drop s.length).toArray, rfl, hg1, (by unfold Arr Blk at hA2; exact hA2), hc1, hcm, ?_, ?_⟩⟩, hb.trans (hc2.below (by simpa using hg1) hb.size)⟩
    · simp [us]
      omega
    · have hu : us d' = (sorted s).map (.int .u64) := by unfold us; rw [hd]
      rw [List.toList_toArray, hu, List.take_append_of_le_length (by simp [sorted]), List.take_of_length_le (by simp [sorted])]
theorem c_Keys (mb : Nat) (w : World) : Does Try.prog 51 #[.map (some mb)] w fun v w' => v = .func (.func 69) #[] #[.pointer (some ⟨w.heap.size, 0, none⟩)] ∧ w' = w.alloc (.cells [.map (some mb)].toArray 70) := by
  refine Does_of (args := [.map (some mb)]) Try.func51 (by kernel_rfl) rfl rfl rfl rfl rfl ?_
  (refine Ga ?_)
  (apply retQ1; (focus rfl))
  exact ⟨rfl, rfl⟩
/-- slices.Sorted(maps.Keys(m)), behind Keys. -/
theorem c_SortedKeys {α : Type} (mb : Nat) (R : Value → α → Prop) (es : List (Int × α)) (hl : es.length ≤ 100000000) (w : World) (h : SxU.MpAt w mb R es) :
    Does Try.prog 50 #[.func (.func 69) #[] #[.pointer (some ⟨w.heap.size, 0, none⟩)]] (w.alloc (.cells [.map (some mb)].toArray 70)) fun v w' =>
      w'.ownsRow (w.heap.size + 1) 27 1 v es.length ((sorted (es.map (·.1))).map (.int .u64)) ∧ Below w.heap.size w w' := by
  have hb0 : Below w.heap.size w (w.alloc (.cells [.map (some mb)].toArray 70)) := Bel
  have hB : Blk (w.alloc (.cells [.map (some mb)].toArray 70)) w.heap.size [.map (some mb)] 70 := (by (repeat (first | assumption | (apply Blk.below (hb := hb1); rotate_left; (focus ((try simp only [Sx.sizes]); omega)); rotate_right) | (apply Blk.below (hb := hb2); rotate_left; (focus ((try simp only [Sx.sizes]); omega)); rotate_right) | (apply Blk.below (hb := hb3); rotate_left; (focus ((try simp only [Sx.sizes]); omega)); rotate_right) | (apply Blk.below (hb := hb4); rotate_left; (focus ((try simp only [Sx.sizes]); omega)); rotate_right) | (apply Blk.below (hb := hb5); rotate_left; (focus ((try simp only [Sx.sizes]); omega)); rotate_right) | (apply Blk.below (hb := hb6); rotate_left; (focus ((try simp only [Sx.sizes]); omega)); rotate_right) | (apply Blk.below (hb := hb7); rotate_left; (focus ((try simp only [Sx.sizes]); omega)); rotate_right) | (apply Blk.below (hb := hb8); rotate_left; (focus ((try simp only [Sx.sizes]); omega)); rotate_right) | (apply Blk.below (hb := hb9); rotate_left; (focus ((try simp only [Sx.sizes]); omega)); rotate_right) | exact Blk.newE (by first | rfl | ((try simp only [Sx.sizes]); first | done | omega)) _ _ | exact Blk.put_same (by (try simp only [Sx.sizes]); first | done | omega) _ _ | (apply Blk.put_ne; (focus omega)) | apply Blk.alloc | apply Blk.drew)); done)
  have hs0 : (w.alloc (.cells [.map (some mb)].toArray 70)).heap.size = w.heap.size + 1 := by simp only [Sx.sizes]
  have hm : SxU.MpAt (w.alloc (.cells [.map (some mb)].toArray 70)) mb R es := h.mono (hb0.block _ h.lt) (fun _ _ h => h)
  generalize w.alloc (.cells [.map (some mb)].toArray 70) = W at *
  refine (c_Sorted 69 #[.pointer (some ⟨w.heap.size, 0, none⟩)] es.length hl (fun s => s.Perm (es.map (·.1))) (fun s hs => by rw [hs.length_eq, List.length_map]; exact Nat.le_refl _) W
    (enters_of Try.func69 (by kernel_rfl) rfl) (g_Keys w.heap.size mb R es W hB hm)).mono ?_
  rintro v w' ⟨s, hS, ho, hb⟩
  have e1 : s.length = es.length := by rw [hS.length_eq, List.length_map]
  have e2 : sorted s = sorted (es.map (·.1)) := sorted_perm hS
  rw [hs0, e1, e2] at ho
  exact ⟨ho, hb0.trans (hb.mono (by omega))⟩
end So
end Go.Proofs.Ytoljcnlmockpcaa
