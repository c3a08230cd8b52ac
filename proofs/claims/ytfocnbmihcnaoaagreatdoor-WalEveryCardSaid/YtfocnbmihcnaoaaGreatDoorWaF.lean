/- Names of a log's files as the program makes and reads them; equal bytes; a name among names. -/
import Derived.Test.YtfocnbmihcnaoaaGreatDoorWaB
import Derived.Test.YtfocnbmihcnaoaaGreatDoorWaN
import Derived.Test.YtfocnbmihcnaoaaGreatDoorShelfB
import Derived.Lib.LaidTab
import Derived.Lib.OwnBridge
import Derived.Lib.AppendIntMem
import Derived.Lib.AtoiErrMem
namespace Go.Proofs.YtfocnbmihcnaoaaGreatDoor
set_option maxRecDepth 100000
namespace Wa
open Go Go.RowKit Sx Wire Dk
/-- What the texts of numbers and the cutting of texts lean on. -/
structure Env (w : World) : Prop where
  pow : Lib.TabIs Tryz.prog w "internal/strconv.uint64pow10" .u64 Lib.pow10Tab
  mx : ∃ m, w.cell? ⟨3, 0, none⟩ = some (.int .i64 m)
theorem Env.below {w w' : World} (h : Env w) (hb : Below w.heap.size w w') : Env w' := by
  obtain ⟨m, hm⟩ := h.mx
  refine ⟨Lib.tabBelow_of_tabIs h.pow w' hb, m, ?_⟩
  have hlt : 3 < w.heap.size := by
    unfold World.cell? at hm
    rcases Nat.lt_or_ge 3 w.heap.size with h | h
    · exact h
    · rw [Array.getElem?_eq_none h] at hm
      cases hm
  exact (World.cell?_of_block (a := ⟨_, 0, none⟩) (hb.block _ hlt)).trans hm
theorem bs_add (a b : List UInt8) : bs a ++ bs b = bs (a ++ b) := by
  apply ByteArray.ext
  rw [ByteArray.data_append]
  simp
theorem bs_size (a : List UInt8) : (bs a).size = a.length := by
  show a.toArray.size = _
  simp
theorem bs_eq (a : ByteArray) : a = bs a.data.toList := of_data rfl
theorem P_saddB {P : Program} {F : Fr} {t t' ty : TypeId} {x y : Operand} {p q : List UInt8} (hx : ev F x = .string (bs p)) (hy : ev F y = .string (bs q)) (h : p.length + q.length ≤ 9223372036854775807) : Pu P F (.binOp .add t x y t') ty (.string (bs (p ++ q))) := by
  rw [← bs_add]
  exact P_sadd hx hy (by rw [bs_size, bs_size]; exact h)
theorem P_aslice_hi {P : Program} {F : Fr} {ty t e : TypeId} {b len : Nat} {x hi : Operand} {k : IntKind} {m : Nat} {i : TypeInfo} (hx : ev F x = .pointer (some ⟨b, 0, none⟩)) (hhi : ev F hi = .int k (m : Int)) (ht : P.underlying t = some (.array len e)) (hi' : P.info? e = some i) (hs : i.size = 1) (h1 : m ≤ len) :
    Pu P F (.slice t x none (some hi) none) ty (.slice (some ⟨b, 0, none⟩) m len) := fun dst pos after w => by
  have hsz : (sizeOf e).run P w = .ok 1 w := by simp [sizeOf, typeInfo, hi', hs]
  simp [execOp, hx, hhi, Instr.sliceAt, Instr.sureAddr, Instr.sliceBounds, Instr.sliceBound, asIntOf, run_underlying ht, show ¬ len < m by omega, hsz, add_none]
section
attribute [local irreducible] RnS RnT
attribute [local irreducible] W Lst Qst Pu seqQ blkQ rndQ cutQ retQ Does Enters IntKind.wrap bits sb World.alloc World.putObj Blk
theorem c_small (i : Nat) (h : i < 100) (w : World) : Does Tryz.prog 79 #[.int .i64 (i : Int)] w fun v w' => v = .string (bs (Lib.decDigits i)) ∧ w = w' := by
  unfold Does
  exact ⟨Sx.enters_of Tryz.func79 (by kernel_rfl) rfl, (Tryz.internal_strconv_small i h w).mono fun e w' h => ⟨_, h.1, rfl, h.2.symm⟩⟩
theorem c_numDigits (u : Nat) (h1 : 1 ≤ u) (h2 : u < 18446744073709551616) (w : World) (hE : Env w) : Does Tryz.prog 80 #[.int .u64 (u : Int)] w fun v w' => v = .int .i64 (Lib.nDigits u : Int) ∧ w = w' := by
  unfold Does
  exact ⟨Sx.enters_of Tryz.func80 (by kernel_rfl) rfl, (Tryz.internal_strconv_numDigits u h1 h2 w hE.pow).mono fun e w' h => ⟨_, h.1, rfl, h.2.symm⟩⟩
theorem c_fb10 (b cap : Nat) (u : Nat) (h2 : u < 18446744073709551616) (w : World) (hb : Blk w b (List.replicate 24 (.int .u8 0)) 119) :
    Does Tryz.prog 81 #[.slice (some ⟨b, 0, none⟩) (Lib.nDigits u) cap, .int .u64 (u : Int)] w fun v w' => v = .tuple #[] ∧ Ints w' .u8 (.slice (some ⟨b, 0, none⟩) (Lib.nDigits u) cap) (nums (Lib.decDigits u)) ∧ Below b w w' := by
  unfold Does
  have h20 := Lib.nDigits_le20 u h2
  have hH : «Sort».Holds (fun (b : UInt8) => Value.int .u8 (b.toNat : Int)) w b 0 (Array.replicate (Lib.nDigits u) (0 : UInt8)) := fun j hj => by
    have hj' : j < Lib.nDigits u := by simpa using hj
    refine ⟨?_, hb.frozen _⟩
    rw [hb.cell, getElem!_pos _ j hj, Nat.zero_add, List.getElem?_replicate, if_pos (by omega)]
    simp
  have h := Tryz.internal_strconv_formatBase10 b 0 cap u (Array.replicate (Lib.nDigits u) (0 : UInt8)) w hH (by rw [Array.size_replicate]; exact Lib.lt_pow_nDigits u) h2 (by rw [Array.size_replicate]; omega)
  rw [Array.size_replicate] at h
  refine ⟨Sx.enters_of Tryz.func81 (by kernel_rfl) rfl, h.mono fun e w' h => ⟨_, h.1, rfl, ?_⟩⟩
  obtain ⟨n, v', dk, rfl, hf⟩ := h.2
  have hlt := hb.lt
  refine ⟨⟨b, 0, cap, .inl (by unfold nums; rw [List.length_map, Lib.decDigits_length]), fun _ => ?_, fun j hj => ?_⟩, ?_⟩
  · show b < («Sort».putRow _ w b 0 dk).heap.size
    rw [«Sort».size_putRow]
    exact hlt
  · have hj' : j < (Lib.decDigits u).length := by unfold nums at hj; rw [List.length_map] at hj; exact hj
    have hj2 : j < Lib.nDigits u := by rw [Lib.decDigits_length] at hj'; exact hj'
    have hc := «Sort».cell?_putRow (fun (b : UInt8) => Value.int .u8 (b.toNat : Int)) w b 0 _ dk hH (by rw [hf.size, Array.size_replicate]) j (by rw [hf.size]; exact hj2)
    refine Eq.trans (show _ = («Sort».putRow (fun (b : UInt8) => Value.int .u8 (b.toNat : Int)) w b 0 dk).cell? ⟨b, 0 + j, none⟩ from rfl) (hc.trans ?_)
    rw [← Lib.row_is_numeral hf j hj']
    simp [nums]
  · exact (Lib.below_putRow (q := 0) (Below.refl b w) (Nat.le_refl _)).trans ⟨rfl, rfl, rfl, Nat.le_refl _, fun _ _ => rfl⟩
theorem c_iFormatUint (u : Nat) (h2 : u < 18446744073709551616) (w : World) (hE : Env w) : Does Tryz.prog 63 #[.int .u64 (u : Int), .int .i64 10] w fun v w' => v = .string (bs (Lib.decDigits u)) ∧ Below w.heap.size w w' := by
  refine Does_of (args := [.int .u64 (u : Int), .int .i64 10]) Tryz.func63 (by kernel_rfl) rfl rfl rfl rfl rfl ?_
  by_cases hu : u < 100
  · have hw : IntKind.i64.wrap (u : Int) = ((u : Nat) : Int) := wi64 (by omega) (by omega)
    (refine Ga ?_)
    (apply Lst_call; (focus rfl); (focus rfl))
    refine (c_small u hu _).mono ?_
    rintro v w' ⟨rfl, rfl⟩
    (refine Ga ?_)
    (apply retQ1; (focus rfl))
    exact ⟨rfl, Bel⟩
  · have h20 := Lib.nDigits_le20 u h2
    have h1 := Lib.nDigits_pos u
    (refine Ga ?_)
    refine Lst_abs (fun E => Blk E w.heap.size (List.replicate 24 (.int .u8 0)) 119 ∧ Below w.heap.size w E) ⟨(by (repeat (first | assumption | (apply Blk.below (hb := hb1); rotate_left; (focus ((try simp only [Sx.sizes]); omega)); rotate_right) | (apply Blk.below (hb := hb2); rotate_left; (focus ((try simp only [Sx.sizes]); omega)); rotate_right) | (apply Blk.below (hb := hb3); rotate_left; (focus ((try simp only [Sx.sizes]); omega)); rotate_right) | (apply Blk.below (hb := hb4); rotate_left; (focus ((try simp only [Sx.sizes]); omega)); rotate_right) | (apply Blk.below (hb := hb5); rotate_left; (focus ((try simp only [Sx.sizes]); omega)); rotate_right) | (apply Blk.below (hb := hb6); rotate_left; (focus ((try simp only [Sx.sizes]); omega)); rotate_right) | (apply Blk.below (hb := hb7); rotate_left; (focus ((try simp only [Sx.sizes]); omega)); rotate_right) | (apply Blk.below (hb := hb8); rotate_left; (focus ((try simp only [Sx.sizes]); omega)); rotate_right) | (apply Blk.below (hb := hb9); rotate_left; (focus ((try simp only [Sx.sizes]); omega)); rotate_right) | exact Blk.newE (by first | rfl | ((try simp only [Sx.sizes]); first | done | omega)) _ _ | exact Blk.put_same (by (try simp only [Sx.sizes]); first | done | omega) _ _ | (apply Blk.put_ne; (focus omega)) | apply Blk.alloc | apply Blk.drew)); done), Bel⟩ ?_
    rintro W0 ⟨k0, b0⟩
    have hE0 := hE.below b0
    (refine Ga ?_)
    (apply Lst_call; (focus rfl); (focus rfl))
    refine (c_numDigits u (by omega) h2 _ hE0).mono ?_
    rintro v w' ⟨rfl, rfl⟩
    (refine Ga ?_)
    apply Lst_pu
    · apply P_aslice_hi (m := Lib.nDigits u)
      focus rfl
      focus rfl
      focus rfl
      focus rfl
      focus rfl
      focus omega
    focus rfl
    (refine Ga ?_)
    (apply Lst_call; (focus rfl); (focus rfl))
    refine (c_fb10 w.heap.size 24 u h2 W0 k0).mono ?_
    rintro v w1 ⟨rfl, hi1, hb1⟩
    have b1 := b0.trans hb1
    (refine Ga ?_)
    apply Lst_pu
    · apply P_aslice_hi (m := Lib.nDigits u)
      focus rfl
      focus rfl
      focus rfl
      focus rfl
      focus rfl
      focus omega
    focus rfl
    apply Lst_bytesI (l := Lib.decDigits u)
    focus rfl
    focus exact hi1
    focus rfl
    focus rfl
    focus rfl
    focus rfl
    (refine Ga ?_)
    (apply retQ1; (focus rfl))
    exact ⟨rfl, b1⟩
theorem c_FormatUint (u : Nat) (h2 : u < 18446744073709551616) (w : World) (hE : Env w) : Does Tryz.prog 47 #[.int .u64 (u : Int), .int .i64 10] w fun v w' => v = .string (bs (Lib.decDigits u)) ∧ Below w.heap.size w w' := by
  refine Does_of (args := [.int .u64 (u : Int), .int .i64 10]) Tryz.func47 (by kernel_rfl) rfl rfl rfl rfl rfl ?_
  (refine Ga ?_)
  (apply Lst_call; (focus rfl); (focus rfl))
  refine (c_iFormatUint u h2 w hE).mono ?_
  rintro v w1 ⟨rfl, hb1⟩
  (refine Ga ?_)
  (apply retQ1; (focus rfl))
  exact ⟨rfl, hb1⟩
theorem c_Itoa (n : Nat) (h1 : n < 9223372036854775808) (w : World) (hE : Env w) : Does Tryz.prog 48 #[.int .i64 (n : Int)] w fun v w' => v = .string (bs (Lib.decDigits n)) ∧ Below w.heap.size w w' := by
  unfold Does
  refine ⟨Sx.enters_of Tryz.func48 (by kernel_rfl) rfl, (Tryz.strconv_Itoa (n : Int) (by omega) (by omega) w hE.pow).mono fun e w' h => ⟨_, h.1, ?_, ?_⟩⟩
  · rw [Lib.itoa_nonneg]
  · obtain ⟨k, os, rfl⟩ := h.2
    exact Lib.below_grow _ w (Nat.le_refl _) k os
theorem c_file (m : List UInt8) (a i : Nat) (hm : m.length ≤ 100) (ha : a < 18446744073709551616) (hi : i < 9223372036854775808) (w : World) (hE : Env w) : Does Tryz.prog 27 #[.string (bs m), .int .u64 (a : Int), .int .i64 (i : Int)] w fun v w' => v = .string (nm m a i) ∧ Below w.heap.size w w' := by
  refine Does_of (args := [.string (bs m), .int .u64 (a : Int), .int .i64 (i : Int)]) Tryz.func27 (by kernel_rfl) rfl rfl rfl rfl rfl ?_
  have l1 : (Lib.decDigits a).length ≤ 20 := by rw [Lib.decDigits_length]; exact Lib.nDigits_le20 a ha
  have l2 : (Lib.decDigits i).length ≤ 20 := by rw [Lib.decDigits_length]; exact Lib.nDigits_le20 i (by omega)
  (refine Ga ?_)
  apply Lst_pu
  · apply P_saddB (p := m) (q := [46])
    focus rfl
    focus rfl
    focus (simp only [List.length_cons, List.length_nil]; omega)
  focus rfl
  (refine Ga ?_)
  (apply Lst_call; (focus rfl); (focus rfl))
  refine (c_FormatUint a ha w hE).mono ?_
  rintro v w1 ⟨rfl, hb1⟩
  (refine Ga ?_)
  apply Lst_pu
  · apply P_saddB (p := (m ++ [46])) (q := (Lib.decDigits a))
    focus rfl
    focus rfl
    focus (simp only [List.length_append, List.length_cons, List.length_nil]; omega)
  focus rfl
  (refine Ga ?_)
  apply Lst_pu
  · apply P_saddB (p := ((m ++ [46]) ++ Lib.decDigits a)) (q := [46])
    focus rfl
    focus rfl
    focus (simp only [List.length_append, List.length_cons, List.length_nil]; omega)
  focus rfl
  (refine Ga ?_)
  (apply Lst_call; (focus rfl); (focus rfl))
  refine (c_Itoa i hi w1 (hE.below hb1)).mono ?_
  rintro v w2 ⟨rfl, hb2⟩
  have b2 := Sx.Below.after (w := w) hb1 hb2
  (refine Ga ?_)
  apply Lst_pu
  · apply P_saddB (p := (((m ++ [46]) ++ Lib.decDigits a) ++ [46])) (q := (Lib.decDigits i))
    focus rfl
    focus rfl
    focus (simp only [List.length_append, List.length_cons, List.length_nil]; omega)
  focus rfl
  (refine Ga ?_)
  (apply retQ1; (focus rfl))
  refine ⟨?_, b2⟩
  show Value.string (bs ((((m ++ [46]) ++ Lib.decDigits a) ++ [46]) ++ Lib.decDigits i)) = _
  unfold nm nmL
  simp only [List.append_assoc, List.cons_append, List.nil_append]
/-- The parts of a name. -/
theorem c_Split (s : ByteArray) (hs : s.size < 4294967281) (w : World) (hE : Env w) :
    Does Tryz.prog 37 #[.string s, .string dot] w fun v w' => v = .slice (some ⟨w.heap.size, 0, none⟩) (Lib.countB s dot + 1) (Lib.countB s dot + 1) ∧ Blk w' w.heap.size ((Lib.splitB dot 0 (Lib.countB s dot) s).map Value.string) 9 ∧ Below w.heap.size w w' := by
  unfold Does
  obtain ⟨m, hm⟩ := hE.mx
  refine ⟨Sx.enters_of Tryz.func37 (by kernel_rfl) rfl, (Tryz.strings_Split s dot m w hs hm (by decide)).mono fun e w' h => ⟨_, h.1, rfl, ?_⟩⟩
  rw [h.2]
  exact ⟨Blk.newE rfl _ _, Bel⟩
theorem c_Parse (u : Nat) (h : u < 18446744073709551616) (w : World) : Does Tryz.prog 38 #[.string (bs (Lib.decDigits u)), .int .i64 10, .int .i64 64] w fun v w' => v = .tuple #[.int .u64 (u : Int), .nilIface] ∧ Below w.heap.size w w' := by
  unfold Does
  have hl : (bs (Lib.decDigits u)).size ≤ 9223372036854775806 := by
    rw [bs_size, Lib.decDigits_length]
    have := Lib.nDigits_le20 u h
    omega
  refine ⟨Sx.enters_of Tryz.func38 (by kernel_rfl) rfl, (Tryz.strconv_ParseUint_10_at64_ok _ hl u (parse_ok u h) w).mono fun e w' h => ⟨_, h.1, rfl, ?_⟩⟩
  rcases h.2 with rfl | rfl
  · exact Below.refl _ _
  · exact Lib.bytesWorld_below w _ _
theorem c_ageOf (m m' : List UInt8) (a i : Nat) (hm : m'.length ≤ 100) (hd : 46 ∉ m') (ha : a < 18446744073709551616) (hi : i < 18446744073709551616) (w : World) (hE : Env w) :
    Does Tryz.prog 21 #[.string (bs m), .string (nm m' a i)] w fun v w' => v = .tuple #[.int .u64 ((if m = m' then a else 0 : Nat) : Int), .bool (decide (m = m'))] ∧ Below w.heap.size w w' := by
  refine Does_of (args := [.string (bs m), .string (nm m' a i)]) Tryz.func21 (by kernel_rfl) rfl rfl rfl rfl rfl ?_
  have l1 : (Lib.decDigits a).length ≤ 20 := by rw [Lib.decDigits_length]; exact Lib.nDigits_le20 a ha
  have l2 : (Lib.decDigits i).length ≤ 20 := by rw [Lib.decDigits_length]; exact Lib.nDigits_le20 i (by omega)
  have hz : (nm m' a i).size < 4294967281 := by
    unfold nm nmL
    rw [bs_size]
    simp only [List.length_append, List.length_cons]
    omega
  (refine Ga ?_)
  (apply Lst_call; (focus rfl); (focus rfl))
  refine (c_Split (nm m' a i) hz w hE).mono ?_
  rintro v w1 ⟨rfl, k1, b1⟩
  rw [nm_split hd] at k1
  rw [nm_count hd]
  (refine Ga ?_)
  apply Lst_pu
  · apply Tl.P_idxu (q := 0)
    focus rfl
    focus rfl
    focus rfl
    focus rfl
    focus rfl
    focus decide
    focus decide
  focus rfl
  apply Lst_guard_t
  focus rfl
  focus rfl
  apply Lst_load (v := .string (bs m'))
  focus rfl
  focus rfl
  focus rfl
  focus exact k1
  focus rfl
  focus rfl
  by_cases hmm : m = m'
  · subst hmm
    rw [if_pos rfl, decide_eq_true rfl]
    have hs : ¬ ¬ bs m = bs m := fun h => h rfl
    (refine Ga ?_)
    apply Lst_pu
    · apply Tl.P_idxu (q := 1)
      focus rfl
      focus rfl
      focus rfl
      focus rfl
      focus rfl
      focus decide
      focus decide
    focus rfl
    apply Lst_load (v := .string (bs (Lib.decDigits a)))
    focus rfl
    focus rfl
    focus rfl
    focus exact k1
    focus rfl
    focus rfl
    (refine Ga ?_)
    (apply Lst_call; (focus rfl); (focus rfl))
    refine (c_Parse a ha w1).mono ?_
    rintro v w2 ⟨rfl, hb2⟩
    have b2 := Sx.Below.after (w := w) b1 hb2
    (refine Ga ?_)
    refine W_draws (Dk.Grown _) rfl (by kernel_rfl) (Dk.grown_start _) ?_
    (refine Qb ?_)
    apply Qst_pu
    · apply P_ifnil (r := true)
      focus rfl
      focus rfl
      focus exact .inl ⟨rfl, rfl⟩
    focus rfl
    (refine Qb ?_)
    intro w9 hb9
    have b9 := Sx.Below.after (w := w) Bel hb9
    have s9 := hb9.size
    try simp only [Sx.sizes] at s9
    (refine Ga ?_)
    (apply retQ2; (focus rfl); (focus rfl))
    exact ⟨rfl, b9⟩
  · have hs : ¬ bs m' = bs m := fun h => hmm (bs_inj h).symm
    rw [if_neg hmm, decide_eq_false hmm]
    (refine Ga ?_)
    (apply retQ2; (focus rfl); (focus rfl))
    exact ⟨rfl, b1⟩
theorem c_ageOf0 (m m' : List UInt8) (hm : m'.length ≤ 100) (hd : 46 ∉ m') (w : World) (hE : Env w) :
    Does Tryz.prog 21 #[.string (bs m), .string (fresh m')] w fun v w' => v = .tuple #[.int .u64 0, .bool false] ∧ Below w.heap.size w w' := by
  refine Does_of (args := [.string (bs m), .string (fresh m')]) Tryz.func21 (by kernel_rfl) rfl rfl rfl rfl rfl ?_
  have hz : (fresh m').size < 4294967281 := by
    unfold fresh
    rw [bs_size, List.length_append, List.length_singleton]
    omega
  (refine Ga ?_)
  (apply Lst_call; (focus rfl); (focus rfl))
  refine (c_Split (fresh m') hz w hE).mono ?_
  rintro v w1 ⟨rfl, k1, b1⟩
  rw [fresh_count hd]
  (refine Ga ?_)
  (apply retQ2; (focus rfl); (focus rfl))
  exact ⟨rfl, b1⟩
theorem c_Equal (u v : Value) (l k : List UInt8) (hl : l.length ≤ 100000000) (w : World) (h : Ints w .u8 u (nums l)) (h' : Ints w .u8 v (nums k)) :
    Does Tryz.prog 103 #[u, v] w fun r w' => r = .bool (decide (l = k)) ∧ Below w.heap.size w w' := by
  have hnl : (nums l).length = l.length := by unfold nums; rw [List.length_map]
  have hnk : (nums k).length = k.length := by unfold nums; rw [List.length_map]
  obtain ⟨b1, o1, c1, hf1, hlt1, hc1⟩ := h
  obtain ⟨b2, o2, c2, hf2, hlt2, hc2⟩ := h'
  obtain ⟨a1, d1, rfl⟩ : ∃ a c, u = .slice a l.length c := by
    rcases hf1 with rfl | ⟨⟨a, rfl⟩, hz⟩
    · exact ⟨_, _, by rw [hnl]⟩
    · have : l = [] := by simpa [nums] using hz
      subst this
      exact ⟨_, _, rfl⟩
  obtain ⟨a2, d2, rfl⟩ : ∃ a c, v = .slice a k.length c := by
    rcases hf2 with rfl | ⟨⟨a, rfl⟩, hz⟩
    · exact ⟨_, _, by rw [hnk]⟩
    · have : k = [] := by simpa [nums] using hz
      subst this
      exact ⟨_, _, rfl⟩
  refine Does_of (args := [.slice a1 l.length d1, .slice a2 k.length d2]) Tryz.func103 (by kernel_rfl) rfl rfl rfl rfl rfl ?_
  by_cases hlen : l.length = k.length
  · (refine Ga ?_)
    refine W_loop (α := Nat) (fun i => [(0, .slice a1 l.length d1), (1, .slice a2 k.length d2), (12, .int .i64 (l.length : Int)), (13, .int .i64 (i : Int))]) (fun i A => i ≤ l.length ∧ l.take i = k.take i ∧ Below w.heap.size w A) (fun i _ => l.length - i) 0 ⟨Nat.zero_le _, rfl, Below.refl _ _⟩ ⟨rfl, rfl, rfl, rfl, trivial⟩ ?_
    rintro J i A ⟨hi, he, bA⟩
    by_cases hil : i < l.length
    · have hik : i < k.length := by omega
      have e1 : a1 = some ⟨b1, o1, none⟩ := by
        rcases hf1 with e | ⟨⟨a, e⟩, _⟩
        · exact (Value.slice.inj e).1
        · have := (Value.slice.inj e).2.1
          omega
      have e2 : a2 = some ⟨b2, o2, none⟩ := by
        rcases hf2 with e | ⟨⟨a, e⟩, _⟩
        · exact (Value.slice.inj e).1
        · have := (Value.slice.inj e).2.1
          omega
      subst e1 e2
      have x1 : A.cell? ⟨b1, o1 + i, none⟩ = some (.int .u8 (l[i].toNat : Int)) := by
        rw [World.cell?_of_block (a := ⟨b1, o1 + i, none⟩) (bA.block b1 (hlt1 (by intro e; have := congrArg List.length e; rw [hnl, List.length_nil] at this; omega))), hc1 i (by rw [hnl]; exact hil)]
        simp [nums]
      have x2 : A.cell? ⟨b2, o2 + i, none⟩ = some (.int .u8 (k[i].toNat : Int)) := by
        rw [World.cell?_of_block (a := ⟨b2, o2 + i, none⟩) (bA.block b2 (hlt2 (by intro e; have := congrArg List.length e; rw [hnk, List.length_nil] at this; omega))), hc2 i (by rw [hnk]; exact hik)]
        simp [nums]
      have l1 : b1 < A.heap.size := by
        have := hlt1 (by intro e; have := congrArg List.length e; rw [hnl, List.length_nil] at this; omega)
        have := bA.size
        omega
      have l2 : b2 < A.heap.size := by
        have := hlt2 (by intro e; have := congrArg List.length e; rw [hnk, List.length_nil] at this; omega)
        have := bA.size
        omega
      by_cases hx : l[i] = k[i]
      · have hxx : l[i].toNat = k[i].toNat := by rw [hx]
        (refine Ga ?_)
        refine W_draws (Dk.Grown _) rfl (by kernel_rfl) (Dk.grown_start _) ?_
        (refine Qb ?_)
        apply Qst_loadc
        focus rfl
        focus rfl
        focus rfl
        focus exact fun A9 hA9 => (World.cell?_of_block (a := ⟨b1, _, none⟩) (hA9.block _ l1)).trans x1
        focus rfl
        (refine Qb ?_)
        apply Qst_loadc
        focus rfl
        focus rfl
        focus rfl
        focus exact fun A9 hA9 => (World.cell?_of_block (a := ⟨b2, _, none⟩) (hA9.block _ l2)).trans x2
        focus rfl
        (refine Qb ?_)
        intro w9 hb9
        have b9 := Sx.Below.after (w := w) Bel hb9
        have s9 := hb9.size
        try simp only [Sx.sizes] at s9
        (refine Ga ?_)
        refine rndQ_n (α := Nat) (i + 1) ⟨hil, ?_, b9⟩ ⟨rfl, rfl, rfl, ?_, trivial⟩ (by omega)
        · rw [List.take_succ_eq_append_getElem hil, List.take_succ_eq_append_getElem hik, he, hx]
        · exact congrArg (Value.int .i64) (by omega)
      · have hxx : l[i].toNat ≠ k[i].toNat := fun e => hx (UInt8.toNat_inj.1 e)
        (refine Ga ?_)
        refine W_draws (Dk.Grown _) rfl (by kernel_rfl) (Dk.grown_start _) ?_
        (refine Qb ?_)
        apply Qst_loadc
        focus rfl
        focus rfl
        focus rfl
        focus exact fun A9 hA9 => (World.cell?_of_block (a := ⟨b1, _, none⟩) (hA9.block _ l1)).trans x1
        focus rfl
        (refine Qb ?_)
        apply Qst_loadc
        focus rfl
        focus rfl
        focus rfl
        focus exact fun A9 hA9 => (World.cell?_of_block (a := ⟨b2, _, none⟩) (hA9.block _ l2)).trans x2
        focus rfl
        (refine Qb ?_)
        intro w9 hb9
        have b9 := Sx.Below.after (w := w) Bel hb9
        have s9 := hb9.size
        try simp only [Sx.sizes] at s9
        (refine Ga ?_)
        (apply retQ1; (focus rfl))
        refine ⟨?_, b9⟩
        have hne : l ≠ k := fun e => hx (by subst e; rfl)
        rw [decide_eq_false hne]
        rfl
    · have hk : l = k := by
        have h1 := List.take_of_length_le (l := l) (i := i) (by omega)
        have h2 := List.take_of_length_le (l := k) (i := i) (by omega)
        rw [← h1, ← h2]
        exact he
      (refine Ga ?_)
      (apply retQ1; (focus rfl))
      exact ⟨by rw [decide_eq_true hk]; rfl, bA⟩
  · have hne : l ≠ k := fun e => hlen (by rw [e])
    (refine Ga ?_)
    (apply retQ1; (focus rfl))
    exact ⟨by rw [decide_eq_false hne]; rfl, Bel⟩
/-- Names behind a slice. -/
def NmS (w : World) (v : Value) (L : List ByteArray) : Prop := SRows w 1 v (L.map fun s => [.string s])
theorem c_Index (L : List ByteArray) (s : ByteArray) (a : Option Addr) (c : Nat) (hl : L.length ≤ 1000000) (w : World) (h : NmS w (.slice a L.length c) L) :
    Does Tryz.prog 52 #[.slice a L.length c, .string s] w fun v w' => (∃ z : Int, v = .int .i64 z ∧ (s ∈ L ↔ 0 ≤ z)) ∧ w = w' := by
  refine Does_of (args := [.slice a L.length c, .string s]) Tryz.func52 (by kernel_rfl) rfl rfl rfl rfl rfl ?_
  (refine Ga ?_)
  refine W_loop (α := Nat) (fun i => [(0, .slice a L.length c), (1, .string s), (7, .int .i64 (L.length : Int)), (8, .int .i64 (i : Int))]) (fun i A => i ≤ L.length ∧ (∀ j (h : j < L.length), j < i → L[j] ≠ s) ∧ w = A) (fun i _ => L.length - i) 0 ⟨Nat.zero_le _, fun j _ h => absurd h (Nat.not_lt_zero _), rfl⟩ ⟨rfl, rfl, rfl, rfl, trivial⟩ ?_
  rintro J i A ⟨hi, hno, rfl⟩
  by_cases hil : i < L.length
  · obtain ⟨b, off, rfl, _, hc⟩ := SRows.at h (i := i) (by rw [List.length_map]; exact hil)
    rw [List.getElem_map] at hc
    have hx : w.cell? ⟨b, off + i, none⟩ = some (.string L[i]) := by
      have := hc 0 _ rfl
      rw [Nat.mul_one, Nat.add_zero] at this
      exact this
    by_cases he : s = L[i]
    · (refine Ga ?_)
      (apply retQ1; (focus rfl))
      exact ⟨⟨_, rfl, fun _ => by omega, fun _ => by rw [he]; exact List.getElem_mem hil⟩, rfl⟩
    · (refine Ga ?_)
      refine rndQ_n (α := Nat) (i + 1) ⟨hil, fun j hj hji => ?_, rfl⟩ ⟨rfl, rfl, rfl, ?_, trivial⟩ (by omega)
      · rcases Nat.lt_succ_iff_lt_or_eq.1 hji with h | rfl
        · exact hno j hj h
        · exact fun e => he e.symm
      · exact congrArg (Value.int .i64) (by omega)
  · (refine Ga ?_)
    (apply retQ1; (focus rfl))
    refine ⟨⟨_, rfl, fun h => ?_, fun h => absurd h (by decide)⟩, rfl⟩
    obtain ⟨j, hj, e⟩ := List.getElem_of_mem h
    exact absurd e (hno j hj (by omega))
theorem c_Contains (L : List ByteArray) (s : ByteArray) (a : Option Addr) (c : Nat) (hl : L.length ≤ 1000000) (w : World) (h : NmS w (.slice a L.length c) L) :
    Does Tryz.prog 30 #[.slice a L.length c, .string s] w fun v w' => (∃ r, v = .bool r ∧ (r = true ↔ s ∈ L)) ∧ w = w' := by
  refine Does_of (args := [.slice a L.length c, .string s]) Tryz.func30 (by kernel_rfl) rfl rfl rfl rfl rfl ?_
  (refine Ga ?_)
  (apply Lst_call; (focus rfl); (focus rfl))
  refine (c_Index L s a c hl w h).mono ?_
  rintro v w1 ⟨⟨z, rfl, hz⟩, rfl⟩
  by_cases hs : s ∈ L
  · have h0 := hz.1 hs
    (refine Ga ?_)
    (apply retQ1; (focus rfl))
    exact ⟨⟨true, rfl, fun _ => hs, fun _ => rfl⟩, rfl⟩
  · have h0 : ¬ 0 ≤ z := fun h => hs (hz.2 h)
    (refine Ga ?_)
    (apply retQ1; (focus rfl))
    exact ⟨⟨false, rfl, ⟨fun h => Bool.noConfusion h, fun h => absurd h hs⟩⟩, rfl⟩
end
end Wa
end Go.Proofs.YtfocnbmihcnaoaaGreatDoor
