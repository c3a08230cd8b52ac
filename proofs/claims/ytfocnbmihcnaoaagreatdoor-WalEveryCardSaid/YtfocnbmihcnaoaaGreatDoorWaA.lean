/- The sum of bytes; numbers of four bytes. -/
import Derived.Test.YtfocnbmihcnaoaaGreatDoorJReToRead7
import Derived.Test.YtfocnbmihcnaoaaGreatDoorJSxTToSxV
namespace Go.Proofs.YtfocnbmihcnaoaaGreatDoor
set_option maxRecDepth 100000
namespace Wa
open Go Go.RowKit Sx Wire
theorem ofInt32 {a : Nat} (h : a < 4294967296) : (BitVec.ofInt 32 (a : Int)).toNat = a := by
  rw [BitVec.toNat_ofInt]
  omega
theorem lt_xor {a b : Nat} (ha : a < 4294967296) (hb : b < 4294967296) : a ^^^ b < 4294967296 := Nat.xor_lt_two_pow (n := 32) ha hb
theorem xor32 {a b : Nat} (ha : a < 4294967296) (hb : b < 4294967296) : bits .xor .u32 (a : Int) (b : Int) = ((a ^^^ b : Nat) : Int) := by
  show IntKind.u32.wrap ((BitVec.ofInt 32 (a : Int) ^^^ BitVec.ofInt 32 (b : Int)).toNat : Int) = _
  rw [BitVec.toNat_xor, ofInt32 ha, ofInt32 hb]
  have := lt_xor ha hb
  exact wu32 (by omega) (by omega)
theorem and32 {a : Nat} (ha : a < 4294967296) (k : Nat) (hk : k < 32) : bits .and .u32 (a : Int) ((2 ^ k - 1 : Nat) : Int) = ((a % 2 ^ k : Nat) : Int) := by
  have h2 : (2 : Nat) ^ k ≤ 2 ^ 31 := Nat.pow_le_pow_right (by decide) (by omega)
  show IntKind.u32.wrap ((BitVec.ofInt 32 (a : Int) &&& BitVec.ofInt 32 ((2 ^ k - 1 : Nat) : Int)).toNat : Int) = _
  rw [BitVec.toNat_and, ofInt32 ha, ofInt32 (by omega), Nat.and_two_pow_sub_one_eq_mod]
  have := Nat.mod_lt a (Nat.two_pow_pos k)
  exact wu32 (by omega) (by omega)
theorem and1_32 {a : Nat} (ha : a < 4294967296) : bits .and .u32 (a : Int) 1 = ((a % 2 : Nat) : Int) := and32 ha 1 (by decide)
theorem and15_32 {a : Nat} (ha : a < 4294967296) : bits .and .u32 (a : Int) 15 = ((a % 16 : Nat) : Int) := and32 ha 4 (by decide)
/-- One round of the table. -/
def rnd (x : Nat) : Nat := (x / 2) ^^^ (3988292384 * (x % 2))
def rnds : Nat → Nat → Nat
  | 0, x => x
  | k + 1, x => rnd (rnds k x)
theorem rnd_lt {x : Nat} (h : x < 4294967296) : rnd x < 4294967296 := lt_xor (by omega) (by omega)
theorem rnds_lt {x : Nat} (h : x < 4294967296) : ∀ k, rnds k x < 4294967296
  | 0 => h
  | k + 1 => rnd_lt (rnds_lt h k)
/-- The table: of each four bits. -/
def half (i : Nat) : Nat := rnds 4 i
def tabRow (i : Nat) (rest : List Nat) : List Value := (((List.range i).map half) ++ rest).map fun x : Nat => Value.int .u32 (x : Int)
theorem tabRow_at {i : Nat} {c : Nat} {rest : List Nat} : (tabRow i (c :: rest))[i]? = some (.int .u32 (c : Int)) := by
  unfold tabRow
  rw [List.getElem?_map, List.getElem?_append_right (by simp)]
  simp
theorem tabRow_set {i : Nat} {c d : Nat} {rest : List Nat} : (tabRow i (c :: rest)).set i (.int .u32 (d : Int)) = tabRow i (d :: rest) := by
  unfold tabRow
  rw [List.map_append, List.map_append, List.set_append_right _ _ (by simp)]
  simp
theorem tabRow_next {i : Nat} {rest : List Nat} : tabRow i (half i :: rest) = tabRow (i + 1) rest := by
  unfold tabRow
  rw [List.range_succ, List.map_append (f := half), List.append_assoc]
  rfl
theorem tabRow_full {j : Nat} (h : j < 16) : (tabRow 16 [])[j]? = some (.int .u32 (half j : Int)) := by
  unfold tabRow
  rw [List.append_nil, List.getElem?_map, List.getElem?_map, List.getElem?_range h]
  rfl
/-- The sum, bit by bit as the program has it. -/
def nib (s : Nat) : Nat := (s / 16) ^^^ half (s % 16)
def sumB (s : Nat) (x : UInt8) : Nat := nib (nib (s ^^^ x.toNat))
def crcS (l : List UInt8) : Nat := l.foldl sumB 4294967295
def crc (l : List UInt8) : Nat := 4294967295 ^^^ crcS l
theorem half_lt {i : Nat} (h : i < 16) : half i < 4294967296 := rnds_lt (by omega) 4
theorem nib_lt {s : Nat} (h : s < 4294967296) : nib s < 4294967296 := lt_xor (by omega) (half_lt (by omega))
theorem sumB_lt {s : Nat} {x : UInt8} (h : s < 4294967296) : sumB s x < 4294967296 := by
  have := x.toNat_lt
  exact nib_lt (nib_lt (lt_xor h (by omega)))
theorem crcS_lt : ∀ (l : List UInt8) (s : Nat), s < 4294967296 → l.foldl sumB s < 4294967296
  | [], _, h => h
  | _ :: l, _, h => crcS_lt l _ (sumB_lt h)
theorem crc_lt (l : List UInt8) : crc l < 4294967296 := lt_xor (by decide) (crcS_lt l _ (by decide))
theorem crcS_take {l : List UInt8} {j : Nat} (h : j < l.length) : crcS (l.take (j + 1)) = sumB (crcS (l.take j)) l[j] := by
  unfold crcS
  rw [List.take_succ_eq_append_getElem h, List.foldl_append]
  rfl
theorem P_compl {P : Program} {F : Fr} {t ty : TypeId} {x : Operand} {p r : Int} (hx : ev F x = .int .u32 p) (hr : bits .xor .u32 4294967295 p = r) : Pu P F (.unOp .xor t x) ty ((.int .u32 r)) :=
  fun dst pos after w => (by subst hr; simp [execOp, hx, Op.unary, Op.intBits, bits, IntKind.signed, IntKind.max, IntKind.bits])
section
attribute [local irreducible] RnS RnT
attribute [local irreducible] W Lst Qst Pu seqQ blkQ rndQ cutQ retQ Does Enters IntKind.wrap bits sb World.alloc World.putObj Blk
set_option maxHeartbeats 4000000 in
theorem c_Sum (v0 : Value) (l : List UInt8) (hl : l.length ≤ 100000000) (w : World) (h : Ints w .u8 v0 (nums l)) : Does Tryz.prog 45 #[v0] w fun v w' => v = .int .u32 (crc l : Int) ∧ Below w.heap.size w w' := by
  obtain ⟨bb, off, cap, hf, hlt, hcell⟩ := h
  have hnl : (nums l).length = l.length := by unfold nums; rw [List.length_map]
  obtain ⟨ba, cc, rfl⟩ : ∃ a c, v0 = .slice a l.length c := by
    rcases hf with rfl | ⟨⟨a, rfl⟩, hz⟩
    · exact ⟨_, _, by rw [hnl]⟩
    · have : l = [] := by simpa [nums] using hz
      subst this
      exact ⟨_, _, rfl⟩
  refine Does_of (args := [.slice ba l.length cc]) Tryz.func45 (by kernel_rfl) rfl rfl rfl rfl rfl ?_
  (refine Ga ?_)
  refine W_abs (fun E => Blk E w.heap.size (tabRow 0 (List.replicate 16 0)) 104 ∧ Below w.heap.size w E) ⟨(by (repeat (first | assumption | (apply Blk.below (hb := hb1); rotate_left; (focus ((try simp only [Sx.sizes]); omega)); rotate_right) | (apply Blk.below (hb := hb2); rotate_left; (focus ((try simp only [Sx.sizes]); omega)); rotate_right) | (apply Blk.below (hb := hb3); rotate_left; (focus ((try simp only [Sx.sizes]); omega)); rotate_right) | (apply Blk.below (hb := hb4); rotate_left; (focus ((try simp only [Sx.sizes]); omega)); rotate_right) | (apply Blk.below (hb := hb5); rotate_left; (focus ((try simp only [Sx.sizes]); omega)); rotate_right) | (apply Blk.below (hb := hb6); rotate_left; (focus ((try simp only [Sx.sizes]); omega)); rotate_right) | (apply Blk.below (hb := hb7); rotate_left; (focus ((try simp only [Sx.sizes]); omega)); rotate_right) | (apply Blk.below (hb := hb8); rotate_left; (focus ((try simp only [Sx.sizes]); omega)); rotate_right) | (apply Blk.below (hb := hb9); rotate_left; (focus ((try simp only [Sx.sizes]); omega)); rotate_right) | exact Blk.newE (by first | rfl | ((try simp only [Sx.sizes]); first | done | omega)) _ _ | exact Blk.put_same (by (try simp only [Sx.sizes]); first | done | omega) _ _ | (apply Blk.put_ne; (focus omega)) | apply Blk.alloc | apply Blk.drew)); done), Bel⟩ ?_
  rintro W0 ⟨k0, b0⟩
  obtain ⟨hb, hhb⟩ : ∃ n, w.heap.size = n := ⟨_, rfl⟩
  have hwb : ∀ Y, Below w.heap.size w Y → ∀ j (h : j < l.length), Y.cell? ⟨bb, off + j, none⟩ = some (.int .u8 (l[j].toNat : Int)) := fun Y hY j hj => by
    have h1 := hcell j (by rw [hnl]; exact hj)
    have h2 := hlt (by intro e; have := congrArg List.length e; rw [hnl, List.length_nil] at this; omega)
    rw [World.cell?_of_block (a := ⟨bb, off + j, none⟩) (hY.block bb h2), h1]
    simp [nums]
  rw [hhb] at k0 ⊢
  refine W_loop (α := Nat) (fun i => [(0, .slice ba l.length cc), (3, .pointer (some ⟨hb, 0, none⟩)), (8, .int .u32 (i : Int))]) (fun i Y => i ≤ 16 ∧ Blk Y hb (tabRow i (List.replicate (16 - i) 0)) 104 ∧ Below w.heap.size w Y) (fun i _ => 16 - i) 0 ⟨Nat.zero_le _, k0, b0⟩ ⟨rfl, rfl, rfl, trivial⟩ ?_
  clear k0 b0
  rintro J i Y ⟨hi, kY, bY⟩
  by_cases hi16 : i < 16
  · have er : List.replicate (16 - i) 0 = (rnds 0 0) :: List.replicate (15 - i) 0 := by
      rw [show 16 - i = (15 - i) + 1 by omega]
      rfl
    rw [er] at kY
    have hw1 : arith .add .u32 (i : Int) 1 = ((i + 1 : Nat) : Int) := wu32 (by omega) (by omega)
    (refine Ga ?_)
    have e : 0 + ((i : Nat) : Int).toNat = i := by simp
    rw [e]
    have hlen : i < (tabRow i (rnds 0 0 :: List.replicate (15 - i) 0)).length := by
      unfold tabRow
      simp
    apply Lst_storeN (hb := kY) (hl := hlen) (v := .int .u32 (i : Int))
    focus rfl
    focus constructor
    focus rfl
    focus rfl
    focus rfl
    focus rfl
    rw [tabRow_set]
    refine Lst_abs (fun E => Blk E hb (tabRow i (rnds 0 i :: List.replicate (15 - i) 0)) 104 ∧ Below w.heap.size w E) ⟨Blk.put_same kY.lt _ _, Sx.Below.put bY (by omega) _⟩ ?_
    rintro E0 ⟨kE, bE⟩
    (refine Ga ?_)
    refine W_loop (α := Nat) (fun k => [(0, .slice ba l.length cc), (3, .pointer (some ⟨hb, 0, none⟩)), (4, .int .u32 (i : Int)), (8, .int .u32 (i : Int)), (14, .int .i64 (k : Int))]) (fun k Z => k ≤ 4 ∧ Blk Z hb (tabRow i (rnds k i :: List.replicate (15 - i) 0)) 104 ∧ Below w.heap.size w Z) (fun k _ => 4 - k) 0 ⟨Nat.zero_le _, kE, bE⟩ ⟨rfl, rfl, rfl, rfl, rfl, trivial⟩ ?_
    clear kE bE kY bY
    rintro J k Z ⟨hk, kZ, bZ⟩
    by_cases hk4 : k < 4
    · have hc := rnds_lt (x := i) (by omega) k
      have hrn : rnds (k + 1) i = rnd (rnds k i) := rfl
      generalize rnds k i = c at *
      have h1 := and1_32 hc
      have h2 : arith .mul .u32 3988292384 ((c % 2 : Nat) : Int) = ((3988292384 * (c % 2) : Nat) : Int) := by
        have : c % 2 < 2 := Nat.mod_lt _ (by decide)
        have e2 : (3988292384 : Int) * ((c % 2 : Nat) : Int) = ((3988292384 * (c % 2) : Nat) : Int) := by omega
        show IntKind.u32.wrap ((3988292384 : Int) * ((c % 2 : Nat) : Int)) = _
        rw [e2]
        exact wu32 (by omega) (by omega)
      have h3 : bits .xor .u32 ((c : Int) / 2) ((3988292384 * (c % 2) : Nat) : Int) = (rnd c : Int) := by
        have : c % 2 < 2 := Nat.mod_lt _ (by decide)
        exact xor32 (a := c / 2) (by omega) (by omega)
      (refine Ga ?_)
      refine W_draw 12 (fun Y => Blk Y hb (tabRow i (c :: List.replicate (15 - i) 0)) 104 ∧ Below w.heap.size w Y) rfl (by kernel_rfl) ⟨kZ.drew, bZ.drew⟩ ?_
      (refine Qb ?_)
      rw [e]
      apply Qst_load (v := .int .u32 (c : Int))
      focus rfl
      focus rfl
      focus rfl
      focus exact fun A9 hA9 => hA9.1
      focus exact tabRow_at
      focus rfl
      (refine Qb ?_)
      apply Qst_pu
      · apply P_shr_1
        focus rfl
        focus rfl
        focus rfl
      focus rfl
      (refine Qb ?_)
      rw [e]
      apply Qst_load (v := .int .u32 (c : Int))
      focus rfl
      focus rfl
      focus rfl
      focus exact fun A9 hA9 => hA9.1
      focus exact tabRow_at
      focus rfl
      (refine Qb ?_)
      apply Qst_pu
      · apply P_and
        focus rfl
        focus rfl
        focus exact h1
      focus rfl
      (refine Qb ?_)
      apply Qst_pu
      · apply P_xor
        focus rfl
        focus rfl
        focus exact h3
      focus rfl
      (refine Qb ?_)
      rw [e]
      rintro Z1 ⟨kZ1, bZ1⟩
      have hlen2 : i < (tabRow i (c :: List.replicate (15 - i) 0)).length := by
        unfold tabRow
        simp
      apply Lst_storeN (hb := kZ1) (hl := hlen2) (v := .int .u32 (rnd c : Int))
      focus rfl
      focus constructor
      focus rfl
      focus rfl
      focus rfl
      focus rfl
      rw [tabRow_set]
      refine Lst_abs (fun E => Blk E hb (tabRow i (rnd c :: List.replicate (15 - i) 0)) 104 ∧ Below w.heap.size w E) ⟨Blk.put_same kZ1.lt _ _, Sx.Below.put bZ1 (by omega) _⟩ ?_
      rintro E1 ⟨kE1, bE1⟩
      (refine Ga ?_)
      refine rndQ_n (α := Nat) (k + 1) ⟨hk4, by rw [hrn]; exact kE1, bE1⟩ ⟨rfl, rfl, rfl, rfl, ?_, trivial⟩ (by omega)
      exact congrArg (Value.int .i64) (by omega)
    · obtain rfl : k = 4 := by omega
      have kZ : Blk Z hb (tabRow (i + 1) (List.replicate (15 - i) 0)) 104 := by
        rw [← tabRow_next]
        exact kZ
      rw [show 15 - i = 16 - (i + 1) by omega] at kZ
      (refine Ga ?_)
      refine rndQ_n (α := Nat) (i + 1) ⟨hi16, kZ, bZ⟩ ⟨rfl, rfl, rfl, trivial⟩ (by omega)
  · obtain rfl : i = 16 := by omega
    (refine Ga ?_)
    refine W_loop (α := Nat) (fun j => [(3, .pointer (some ⟨hb, 0, none⟩)), (5, .int .u32 (crcS (l.take j) : Int)), (30, .slice ba l.length cc), (31, .int .i64 (l.length : Int)), (32, .int .i64 (j : Int))]) (fun j Z => j ≤ l.length ∧ Blk Z hb (tabRow 16 []) 104 ∧ Below w.heap.size w Z) (fun j _ => l.length - j) 0 ⟨Nat.zero_le _, kY, bY⟩ ⟨rfl, rfl, rfl, rfl, rfl, trivial⟩ ?_
    clear kY bY
    rintro J j Z ⟨hj, kZ, bZ⟩
    by_cases hjl : j < l.length
    · have hsl := crcS_lt (l.take j) 4294967295 (by decide)
      have hst := crcS_take hjl
      have hx := hwb Z bZ j hjl
      have hxl := l[j].toNat_lt
      have hba : ba = some ⟨bb, off, none⟩ := by
        rcases hf with e | ⟨⟨a, e⟩, _⟩
        · exact (Value.slice.inj e).1
        · have := (Value.slice.inj e).2.1
          omega
      subst hba
      have hsl : crcS (l.take j) < 4294967296 := hsl
      generalize crcS (l.take j) = s at *
      generalize l[j] = x at *
      have c1 : IntKind.u32.wrap (x.toNat : Int) = (x.toNat : Int) := wu32 (by omega) (by omega)
      have x1 := xor32 hsl (b := x.toNat) (by omega)
      have l1 := lt_xor hsl (b := x.toNat) (by omega)
      have hs1 : sumB s x = nib (nib (s ^^^ x.toNat)) := rfl
      (refine Ga ?_)
      rw [x1]
      generalize s ^^^ x.toNat = s1 at *
      have a_s1 := and15_32 l1
      have m_s1 : s1 % 16 < 16 := Nat.mod_lt _ (by decide)
      rw [a_s1]
      apply Lst_pu
      · apply P_aidx (r := s1 % 16)
        focus rfl
        focus rfl
        focus rfl
        focus rfl
        focus rfl
        focus omega
        focus omega
        focus (rw [Nat.zero_add]; exact Int.toNat_natCast _)
      focus rfl
      apply Lst_load (v := .int .u32 (half (s1 % 16) : Int))
      focus rfl
      focus rfl
      focus rfl
      focus exact kZ
      focus exact tabRow_full m_s1
      focus rfl
      have x_s1 : bits .xor .u32 ((s1 : Int) / 16) ((half (s1 % 16) : Nat) : Int) = (nib s1 : Int) := xor32 (a := s1 / 16) (by omega) (half_lt m_s1)
      (refine Ga ?_)
      rw [x_s1]
      have l2 := nib_lt l1
      generalize nib s1 = s2 at *
      have a_s2 := and15_32 l2
      have m_s2 : s2 % 16 < 16 := Nat.mod_lt _ (by decide)
      rw [a_s2]
      apply Lst_pu
      · apply P_aidx (r := s2 % 16)
        focus rfl
        focus rfl
        focus rfl
        focus rfl
        focus rfl
        focus omega
        focus omega
        focus (rw [Nat.zero_add]; exact Int.toNat_natCast _)
      focus rfl
      apply Lst_load (v := .int .u32 (half (s2 % 16) : Int))
      focus rfl
      focus rfl
      focus rfl
      focus exact kZ
      focus exact tabRow_full m_s2
      focus rfl
      have x_s2 : bits .xor .u32 ((s2 : Int) / 16) ((half (s2 % 16) : Nat) : Int) = (nib s2 : Int) := xor32 (a := s2 / 16) (by omega) (half_lt m_s2)
      (refine Ga ?_)
      rw [x_s2]
      refine rndQ_n (α := Nat) (j + 1) ⟨hjl, kZ, bZ⟩ ⟨rfl, ?_, rfl, rfl, ?_, trivial⟩ (by omega)
      · rw [hst, hs1]
        rfl
      · exact congrArg (Value.int .i64) (by omega)
    · obtain rfl : j = l.length := by omega
      rw [List.take_length]
      have hr := xor32 (a := 4294967295) (by decide) (crcS_lt l 4294967295 (by decide))
      (refine Ga ?_)
      apply Lst_pu
      · apply P_compl
        focus rfl
        focus exact hr
      focus rfl
      (refine Ga ?_)
      (apply retQ1; (focus rfl))
      exact ⟨rfl, hhb ▸ bZ⟩
end
end Wa
end Go.Proofs.YtfocnbmihcnaoaaGreatDoor
