/- A number of four bytes behind a row; a record's bytes. -/
import Derived.Test.YtfocnbmihcnaoaaGreatDoorWaA
import Derived.Test.YtfocnbmihcnaoaaGreatDoorJPlaceToWDkRead
namespace Go.Proofs.YtfocnbmihcnaoaaGreatDoor
set_option maxRecDepth 100000
namespace Wa
open Go Go.RowKit Sx Wire Dk
/-- Bytes in a row of one's own. -/
def OwnB (B : Nat) (w : World) (v : Value) (l : List UInt8) : Prop := w.ownsRow B 5 1 v l.length (l.map bc)
theorem OwnB.ints {B : Nat} {w : World} {v : Value} {l : List UInt8} (h : OwnB B w v l) : Ints w .u8 v (nums l) := Ints.ofO h
theorem OwnB.below {B m : Nat} {w w' : World} {v : Value} {l : List UInt8} (h : OwnB B w v l) (hb : Below m w w') (hm : w.heap.size ≤ m) : OwnB B w' v l := own_below h hb hm
theorem fix4 (n : Nat) (hn : n < 4294967296) : fixN 4 n = [(n / 16777216).toUInt8, (n / 65536 % 256).toUInt8, (n / 256 % 256).toUInt8, (n % 256).toUInt8] := by
  show [(n / 16777216 % 256).toUInt8, (n / 65536 % 256).toUInt8, (n / 256 % 256).toUInt8, (n / 1 % 256).toUInt8] = _
  rw [Nat.div_one, Nat.mod_eq_of_lt (show n / 16777216 < 256 by omega)]
theorem w8 (k : Nat) : IntKind.u8.wrap (k : Int) = ((k % 256 : Nat) : Int) := by simp [IntKind.wrap, IntKind.signed, IntKind.bits]
section
attribute [local irreducible] RnS RnT
attribute [local irreducible] W Lst Qst Pu seqQ blkQ rndQ cutQ retQ Does Enters IntKind.wrap bits sb World.alloc World.putObj Blk
theorem c_four (B : Nat) (v : Value) (l : List UInt8) (n : Nat) (hn : n < 4294967296) (hl : l.length ≤ 100000000) (w : World) (hB : B ≤ w.heap.size) (h : OwnB B w v l) :
    Does Tryz.prog 43 #[v, .int .u32 (n : Int)] w fun u w' => OwnB B w' u (l ++ fixN 4 n) ∧ Below B w w' := by
  obtain ⟨a0, c0, rfl, _⟩ := own_form h
  refine Does_of (args := [.slice a0 l.length c0, .int .u32 (n : Int)]) Tryz.func43 (by kernel_rfl) rfl rfl rfl rfl rfl ?_
  have e1 : IntKind.u8.wrap ((n : Int) / 16777216) = ((n / 16777216 : Nat) : Int) := by
    rw [show (n : Int) / 16777216 = ((n / 16777216 : Nat) : Int) by omega, w8, Nat.mod_eq_of_lt (show n / 16777216 < 256 by omega)]
  have e2 : IntKind.u8.wrap ((n : Int) / 65536) = ((n / 65536 % 256 : Nat) : Int) := by
    rw [show (n : Int) / 65536 = ((n / 65536 : Nat) : Int) by omega, w8]
  have e3 : IntKind.u8.wrap ((n : Int) / 256) = ((n / 256 % 256 : Nat) : Int) := by
    rw [show (n : Int) / 256 = ((n / 256 : Nat) : Int) by omega, w8]
  have e4 : IntKind.u8.wrap (n : Int) = ((n % 256 : Nat) : Int) := w8 n
  (refine Ga ?_)
  (apply Lst_slit; (focus rfl); (focus rfl); (focus rfl); (focus rfl); (focus rfl); (focus rfl); (focus rfl); (focus rfl); (focus rfl); (focus (repeat (first | apply FillO.nil | (apply FillO.cons; (focus constructor); (focus rfl); (focus rfl); (focus (repeat constructor)))))); (focus ((try simp only [Sx.sizes]); first | done | rfl)); (focus rfl))
  have kN : Blk (w.alloc (.cells [.int .u8 ((n / 16777216 : Nat) : Int), .int .u8 ((n / 65536 % 256 : Nat) : Int), .int .u8 ((n / 256 % 256 : Nat) : Int), .int .u8 ((n % 256 : Nat) : Int)].toArray 5)) w.heap.size [.int .u8 ((n / 16777216 : Nat) : Int), .int .u8 ((n / 65536 % 256 : Nat) : Int), .int .u8 ((n / 256 % 256 : Nat) : Int), .int .u8 ((n % 256 : Nat) : Int)] 5 := Blk.newE rfl _ _
  refine Lst_abs (fun E => Blk E w.heap.size [.int .u8 ((n / 16777216 : Nat) : Int), .int .u8 ((n / 65536 % 256 : Nat) : Int), .int .u8 ((n / 256 % 256 : Nat) : Int), .int .u8 ((n % 256 : Nat) : Int)] 5 ∧ Below w.heap.size w E) ⟨kN, Bel⟩ ?_
  clear kN
  rintro W0 ⟨k0, b0⟩
  have h0 := own_below h b0 (Nat.le_refl _)
  apply Lst_append (hown := h0) (bytes := 1) (news := [.int .u8 ((n / 16777216 : Nat) : Int), .int .u8 ((n / 65536 % 256 : Nat) : Int), .int .u8 ((n / 256 % 256 : Nat) : Int), .int .u8 ((n % 256 : Nat) : Int)]) (B := w.heap.size) (off := 0) (m := 4) (c := 4)
  focus rfl
  focus rfl
  focus rfl
  focus rfl
  focus rfl
  focus rfl
  focus rfl
  focus rfl
  focus rfl
  focus
    intro j u hu
    rw [Nat.zero_add]
    exact (k0.cell j).trans hu
  focus rfl
  focus simp [Value.oneCell']
  focus omega
  focus omega
  focus
    have := b0.size
    omega
  focus rfl
  intro v' w1 ho hg _
  have b1 : Below B w w1 := Below.own (b0.mono hB) h0 hg (Nat.le_refl _) (by have := b0.size; omega)
  obtain ⟨a1, m1, c1, rfl⟩ := own_slice ho
  (refine Ga ?_)
  (apply retQ1; (focus rfl))
  refine ⟨?_, b1⟩
  unfold OwnB
  rw [List.length_append, fixN_length, List.map_append, fix4 n hn]
  rw [List.map_cons, List.map_cons, List.map_cons, List.map_cons, List.map_nil, bc_of _ (by omega), bc_of _ (by omega), bc_of _ (by omega), bc_of _ (by omega)]
  exact ho
/-- A record's bytes. -/
def h1 (n : Nat) : List UInt8 := fixN 8 n
def h2 (n : Nat) (b : List UInt8) : List UInt8 := h1 n ++ fixN 4 b.length
def h3 (n : Nat) (b : List UInt8) : List UInt8 := h2 n b ++ fixN 4 (crc (h2 n b))
def h4 (n : Nat) (b : List UInt8) : List UInt8 := h3 n b ++ fixN 4 (crc (h3 n b ++ b))
def rec1 (n : Nat) (b : List UInt8) : List UInt8 := h4 n b ++ b
theorem h2_len (n : Nat) (b : List UInt8) : (h2 n b).length = 12 := by
  unfold h2 h1
  rw [List.length_append, fixN_length, fixN_length]
theorem h3_len (n : Nat) (b : List UInt8) : (h3 n b).length = 16 := by
  unfold h3
  rw [List.length_append, fixN_length, h2_len]
theorem h4_len (n : Nat) (b : List UInt8) : (h4 n b).length = 20 := by
  unfold h4
  rw [List.length_append, fixN_length, h3_len]
theorem rec_len (n : Nat) (b : List UInt8) : (rec1 n b).length = 20 + b.length := by
  unfold rec1
  rw [List.length_append, h4_len]
theorem c_framed (n : Nat) (hn : n < 9223372036854775808) (v : Value) (b : List UInt8) (hl : b.length ≤ 50000000) (w : World) (h : By w v b) :
    Does Tryz.prog 26 #[.int .i64 (n : Int), v] w fun u w' => Ints w' .u8 u (nums (rec1 n b)) ∧ (∃ a c, u = .slice a (20 + b.length) c) ∧ Below w.heap.size w w' := by
  obtain ⟨a0, c0, rfl⟩ := h.form
  refine Does_of (args := [.int .i64 (n : Int), .slice a0 b.length c0]) Tryz.func26 (by kernel_rfl) rfl rfl rfl rfl rfl ?_
  have hw1 : IntKind.u64.wrap (n : Int) = ((n : Nat) : Int) := wu64 (by omega) (by omega)
  have hw2 : IntKind.u32.wrap (b.length : Int) = ((b.length : Nat) : Int) := wu32 (by omega) (by omega)
  (refine Ga ?_)
  have hW : WrAt w.heap.size w.heap.size [] (w.alloc (.cells [.slice none 0 0].toArray 86)) := WrAt.new w _ (Nat.le_refl _)
  have hbW : Below w.heap.size w (w.alloc (.cells [.slice none 0 0].toArray 86)) := Bel
  have hsW : (w.alloc (.cells [.slice none 0 0].toArray 86)).heap.size = w.heap.size + 1 := by simp only [Sx.sizes]
  generalize w.alloc (.cells [.slice none 0 0].toArray 86) = W at *
  (apply Lst_call; (focus rfl); (focus rfl))
  refine (c_FixedAt w.heap.size w.heap.size [] n W hW (by simp)).mono ?_
  rintro v w1 ⟨rfl, hW1, hoff1⟩
  have b1 := hbW.trans (hoff1.below (Nat.le_refl _) (Nat.le_refl _))
  rw [List.nil_append] at hW1
  (refine Ga ?_)
  (apply Lst_call; (focus rfl); (focus rfl))
  refine (c_WBytesO w.heap.size w.heap.size _ (by rw [fixN_length]; omega) w1 hW1).mono ?_
  rintro u2 w2 ⟨hu2, hb2⟩
  have b2 := Sx.Below.after (w := w) b1 hb2
  have s1 := b1.size
  have s2 := hb2.size
  (refine Ga ?_)
  (apply Lst_call; (focus rfl); (focus rfl))
  refine (c_four w1.heap.size u2 (h1 n) b.length (by omega) (by unfold h1; rw [fixN_length]; omega) w2 s2 hu2).mono ?_
  rintro u3 w3 ⟨hu3, hb3⟩
  have b3 : Below w.heap.size w w3 := b2.trans (hb3.mono s1)
  have s3 := hb3.size
  have b13 : Below w1.heap.size w1 w3 := hb2.trans hb3
  obtain ⟨a3, c3, rfl, _⟩ := own_form hu3
  (refine Ga ?_)
  (apply Lst_call; (focus rfl); (focus rfl))
  refine (c_Sum _ (h2 n b) (by rw [h2_len]; omega) w3 (Ints.ofO hu3)).mono ?_
  rintro v w4 ⟨rfl, hb4⟩
  have b4 := Sx.Below.after (w := w) b3 hb4
  have hu4 := OwnB.below hu3 hb4 (Nat.le_refl _)
  have s4 := hb4.size
  (refine Ga ?_)
  (apply Lst_call; (focus rfl); (focus rfl))
  refine (c_four w1.heap.size _ (h2 n b) (crc (h2 n b)) (crc_lt _) (by rw [h2_len]; omega) w4 (by omega) hu4).mono ?_
  rintro u5 w5 ⟨hu5, hb5⟩
  have b5 : Below w.heap.size w w5 := b4.trans (hb5.mono s1)
  have s5 := hb5.size
  obtain ⟨a5, c5, rfl, _⟩ := own_form hu5
  (refine Ga ?_)
  (apply Lst_slit; (focus rfl); (focus rfl); (focus rfl); (focus rfl); (focus rfl); (focus rfl); (focus rfl); (focus rfl); (focus rfl); (focus (repeat (first | apply FillO.nil | (apply FillO.cons; (focus constructor); (focus rfl); (focus rfl); (focus (repeat constructor)))))); (focus ((try simp only [Sx.sizes]); first | done | rfl)); (focus rfl))
  have kN : Blk (w5.alloc (.cells [.slice a5 (h2 n b ++ fixN 4 (crc (h2 n b))).length c5, .slice a0 b.length c0].toArray 22)) w5.heap.size [.slice a5 (h2 n b ++ fixN 4 (crc (h2 n b))).length c5, .slice a0 b.length c0] 22 := Blk.newE rfl _ _
  have b5' := b5
  refine Lst_abs (fun E => Blk E w5.heap.size [.slice a5 (h2 n b ++ fixN 4 (crc (h2 n b))).length c5, .slice a0 b.length c0] 22 ∧ Below w5.heap.size w5 E) ⟨kN, Bel⟩ ?_
  clear kN
  rintro w6 ⟨k6, hb6⟩
  have b6 : Below w.heap.size w w6 := b5.trans (hb6.mono (by omega))
  have s6 := hb6.size
  have hu6 := OwnB.below hu5 hb6 (Nat.le_refl _)
  (refine Ga ?_)
  (apply Lst_call; (focus rfl); (focus rfl))
  refine (c_Concat w5.heap.size _ _ (h3 n b) b (by rw [h3_len]; omega) w6 k6 (.inl (Ints.ofO hu6)) (By.below h b6 (Nat.le_refl _))).mono ?_
  rintro v w7 ⟨⟨a7, c7, rfl, _⟩, hi7, hb7⟩
  have b7 := Sx.Below.after (w := w) b6 hb7
  have s7 := hb7.size
  (refine Ga ?_)
  (apply Lst_call; (focus rfl); (focus rfl))
  refine (c_Sum _ (h3 n b ++ b) (by rw [List.length_append, h3_len]; omega) w7 hi7).mono ?_
  rintro v w8 ⟨rfl, hb8⟩
  have b8 := Sx.Below.after (w := w) b7 hb8
  have s8 := hb8.size
  have hu8 := OwnB.below (OwnB.below hu6 hb7 (Nat.le_refl _)) hb8 (Nat.le_refl _)
  (refine Ga ?_)
  (apply Lst_call; (focus rfl); (focus rfl))
  refine (c_four w1.heap.size _ (h3 n b) (crc (h3 n b ++ b)) (crc_lt _) (by rw [h3_len]; omega) w8 (by omega) hu8).mono ?_
  rintro u9 w9 ⟨hu9, hb9⟩
  have b9 : Below w.heap.size w w9 := b8.trans (hb9.mono s1)
  have s9 := hb9.size
  obtain ⟨a9, c9, rfl, _⟩ := own_form hu9
  (refine Ga ?_)
  (apply Lst_slit; (focus rfl); (focus rfl); (focus rfl); (focus rfl); (focus rfl); (focus rfl); (focus rfl); (focus rfl); (focus rfl); (focus (repeat (first | apply FillO.nil | (apply FillO.cons; (focus constructor); (focus rfl); (focus rfl); (focus (repeat constructor)))))); (focus ((try simp only [Sx.sizes]); first | done | rfl)); (focus rfl))
  have kN : Blk (w9.alloc (.cells [.slice a9 (h3 n b ++ fixN 4 (crc (h3 n b ++ b))).length c9, .slice a0 b.length c0].toArray 22)) w9.heap.size [.slice a9 (h3 n b ++ fixN 4 (crc (h3 n b ++ b))).length c9, .slice a0 b.length c0] 22 := Blk.newE rfl _ _
  refine Lst_abs (fun E => Blk E w9.heap.size [.slice a9 (h3 n b ++ fixN 4 (crc (h3 n b ++ b))).length c9, .slice a0 b.length c0] 22 ∧ Below w9.heap.size w9 E) ⟨kN, Bel⟩ ?_
  clear kN
  rintro w10 ⟨k10, hb10⟩
  have b10 : Below w.heap.size w w10 := b9.trans (hb10.mono (by omega))
  have s10 := hb10.size
  (refine Ga ?_)
  (apply Lst_call; (focus rfl); (focus rfl))
  refine (c_Concat w9.heap.size _ _ (h4 n b) b (by rw [h4_len]; omega) w10 k10 (.inl (Ints.ofO (OwnB.below hu9 hb10 (Nat.le_refl _)))) (By.below h b10 (Nat.le_refl _))).mono ?_
  rintro v w11 ⟨⟨a11, c11, rfl, _⟩, hi11, hb11⟩
  have b11 := Sx.Below.after (w := w) b10 hb11
  (refine Ga ?_)
  (apply retQ1; (focus rfl))
  refine ⟨hi11, ⟨a11, c11, ?_⟩, b11⟩
  show Value.slice a11 ((h4 n b).length + b.length) c11 = _
  rw [h4_len]
end
end Wa
end Go.Proofs.YtfocnbmihcnaoaaGreatDoor
