/- The walks of texts of values: digits of sixteen. -/
import Derived.Test.YtglfoofclicfpaaDoorJUtfPlainToVal5
import Derived.Test.YtglfoofclicfpaaDoorSxD
import Derived.Test.YtglfoofclicfpaaDoorHex
namespace Go.Proofs.YtglfoofclicfpaaDoor
set_option maxRecDepth 100000
namespace Val
open Go Go.RowKit Sx Fl Hex
theorem and15 (u : Nat) (hu : u < 18446744073709551616) : bits .and .u64 (u : Int) 15 = ((u % 16 : Nat) : Int) := by
  have e1 : (BitVec.ofInt 64 (u : Int)).toNat = u := by
    rw [BitVec.toNat_ofInt]; omega
  have e2 : (BitVec.ofInt 64 15).toNat = 2 ^ 4 - 1 := by decide
  show IntKind.u64.wrap ((BitVec.ofInt 64 (u : Int) &&& BitVec.ofInt 64 15).toNat : Int) = _
  rw [BitVec.toNat_and, e1, e2, Nat.and_two_pow_sub_one_eq_mod]
  exact wu64 (by omega) (by omega)
/-- The digits as they stand in the code. -/
def digs : ByteArray := ⟨#[48, 49, 50, 51, 52, 53, 54, 55, 56, 57, 97, 98, 99, 100, 101, 102, 103, 104, 105, 106, 107, 108, 109, 110, 111, 112, 113, 114, 115, 116, 117, 118, 119, 120, 121, 122]⟩
theorem digs_at (k : Nat) (hk : k < 16) : sb digs k = ((hd k).toNat : Int) :=
  (by decide : ∀ k : Fin 16, sb digs k = ((hd k.1).toNat : Int)) ⟨k, hk⟩
theorem k1 : IntKind.u64.wrap (0 - 16) = 18446744073709551600 := by decide
theorem k2 : bits .and .u64 16 18446744073709551600 = 16 := by decide
theorem k3 : IntKind.u64.wrap (16 * 285870213051353865) = 4573923408821661840 := by decide
theorem k4 : (4573923408821661840 : Int).fdiv (2 ^ (min (58 : Int).toNat IntKind.u64.bits)) = 15 := by decide
theorem k5 : bits .and .i64 16 15 = 0 := by decide
theorem set_drop {l X : List Value} {i : Nat} {v : Value} (hi : i < l.length) (h : l.drop (i + 1) = X) : (l.set i v).drop i = v :: X := by
  rw [List.drop_eq_getElem_cons (by rw [List.length_set]; exact hi), List.getElem_set_self, List.drop_set_of_lt (by omega), h]
def DeB (w : World) : Prop := w.cell? ⟨6, 15, none⟩ = some (.int .u8 4)
theorem repeat_one (c : Nat) (x : UInt8) : Lib.repeatL [x] c = List.replicate c x := by
  induction c with
  | zero => rfl
  | succ c ih =>
    rw [List.replicate_succ, ← ih]
    rfl
theorem c_repeat (k : Nat) (hk : k ≤ 16) (w : World) : Does Tryd.prog 65 #[.string ⟨#[48]⟩, .int .i64 (k : Int)] w fun v w' => v = .string ⟨(List.replicate k 48).toArray⟩ ∧ Below w.heap.size w w' := by
  unfold Does
  refine ⟨Sx.enters_of Tryd.func65 (by kernel_rfl) rfl, (Tryd.strings_Repeat ⟨#[48]⟩ k w (by omega) ?_).mono fun e w' h => ⟨_, h.1, ?_, h.2⟩⟩
  · show 1 * k ≤ _
    omega
  · rw [show (⟨#[48]⟩ : ByteArray).data.toList = [48] from rfl, repeat_one]
theorem DeB.below {w w' : World} (h : DeB w) (hb : Below w.heap.size w w') : DeB w' := by
  have hlt : 6 < w.heap.size := by
    unfold DeB World.cell? at h
    rcases Nat.lt_or_ge 6 w.heap.size with h' | h'
    · exact h'
    · simp [Array.getElem?_eq_none h'] at h
  exact (hb.cell (p := ⟨6, 15, none⟩) hlt).trans h
theorem DeB.alloc {w : World} (h : DeB w) (o : Obj) : DeB (w.alloc o) := h.below ((Below.refl _ _).alloc (Nat.le_refl _) o)
attribute [local irreducible] W Lst Qst Pu seqQ blkQ rndQ cutQ retQ Does Enters IntKind.wrap bits sb World.alloc World.putObj Blk
theorem c_tz64 (w : World) (hT : DeB w) : Does Tryd.prog 100 #[.int .u64 16] w fun v w' => v = .int .i64 4 ∧ w = w' := by
  refine Does_of (args := [.int .u64 16]) Tryd.func100 (by kernel_rfl) rfl rfl rfl rfl rfl ?_
  have h1 := k1
  have h2 := k2
  have h3 := k3
  unfold DeB at hT
  (refine Ga ?_)
  apply Lst_pu
  · apply P_shr
    focus rfl
    focus rfl
    focus omega
    exact k4
  focus rfl
  (refine Ga ?_)
  (apply retQ1; (focus rfl))
  exact ⟨rfl, rfl⟩
theorem c_tz (w : World) (hT : DeB w) : Does Tryd.prog 92 #[.int .u64 16] w fun v w' => v = .int .i64 4 ∧ w = w' := by
  refine Does_of (args := [.int .u64 16]) Tryd.func92 (by kernel_rfl) rfl rfl rfl rfl rfl ?_
  (refine Ga ?_)
  (apply Lst_call; (focus rfl); (focus rfl))
  refine (c_tz64 _ hT).mono ?_
  rintro v w' ⟨rfl, rfl⟩
  (refine Ga ?_)
  (apply retQ1; (focus rfl))
  exact ⟨rfl, rfl⟩
theorem c_pow2 (w : World) : Does Tryd.prog 91 #[.int .i64 16] w fun v w' => v = .bool true ∧ w = w' := by
  refine Does_of (args := [.int .i64 16]) Tryd.func91 (by kernel_rfl) rfl rfl rfl rfl rfl ?_
  have h1 := k5
  (refine Ga ?_)
  (apply retQ1; (focus rfl))
  exact ⟨rfl, rfl⟩
/-- A byte as a cell. -/
def bc (x : UInt8) : Value := .int .u8 (x.toNat : Int)
theorem c_bitsOf16 (u : Nat) (hu : u < 18446744073709551616) (w : World) (hT : DeB w) : Does Tryd.prog 76 #[.slice none 0 0, .int .u64 (u : Int), .int .i64 16, .bool false, .bool false] w fun v w' => (∃ L, L ≤ 16 ∧ u < 16 ^ L ∧ v = .tuple #[.slice none 0 0, .string ⟨(hexN L u).toArray⟩]) ∧ Below w.heap.size w w' := by
  refine Does_of (args := [.slice none 0 0, .int .u64 (u : Int), .int .i64 16, .bool false, .bool false]) Tryd.func76 (by kernel_rfl) rfl rfl rfl rfl rfl ?_
  (refine Ga ?_)
  refine Lst_abs (fun A => Blk A w.heap.size (List.replicate 65 (.int .u8 0)) 124 ∧ Below w.heap.size w A ∧ DeB A) ⟨Blk.newE rfl _ _, (Below.refl _ _).alloc (Nat.le_refl _) _, hT.alloc _⟩ ?_
  rintro A ⟨hblk, hb, hA⟩
  (refine Ga ?_)
  (apply Lst_call; (focus rfl); (focus rfl))
  refine (c_pow2 _).mono ?_
  rintro v w' ⟨rfl, rfl⟩
  (refine Ga ?_)
  (apply Lst_call; (focus rfl); (focus rfl))
  refine (c_tz _ hA).mono ?_
  rintro v w' ⟨rfl, rfl⟩
  (refine Ga ?_)
  refine W_loop (α := Nat × List Value) (fun x => [(1, .int .u64 ((u / 16 ^ x.1 : Nat) : Int)), (3, .bool false), (4, .bool false), (10, .slice none 0 0), (11, .string ⟨#[]⟩), (12, .pointer (some ⟨w.heap.size, 0, none⟩)), (13, .int .i64 (65 - (x.1 : Int))), (14, .int .u64 4), (15, .int .u64 16), (16, .int .u64 15)])
    (fun x A => x.1 ≤ 15 ∧ x.2.length = 65 ∧ x.2.drop (65 - x.1) = (hexN x.1 u).map bc ∧ Blk A w.heap.size x.2 124 ∧ Below w.heap.size w A) (fun x _ => 16 - x.1) (0, List.replicate 65 (.int .u8 0)) ⟨by simp, by simp, by simp [hexN], hblk, hb⟩ ⟨by simp; rfl, rfl, rfl, rfl, rfl, rfl, rfl, rfl, rfl, rfl, trivial⟩ ?_
  clear hblk hb hA
  rintro J ⟨j, l⟩ A ⟨hj, hl, hdr, hblk, hb⟩
  dsimp only at hj hl hdr hblk ⊢
  have hx : u / 16 ^ j < 18446744073709551616 := Nat.lt_of_le_of_lt (Nat.div_le_self _ _) hu
  have hm := and15 (u / 16 ^ j) hx
  have hml : u / 16 ^ j % 16 < 16 := Nat.mod_lt _ (by omega)
  generalize hxe : u / 16 ^ j = x at hx hm hml ⊢
  have hoff : 0 + (65 - (j : Int) - 1).toNat = 64 - j := by omega
  have hset : (l.set (64 - j) (bc (hd (x % 16)))).drop (64 - j) = bc (hd (x % 16)) :: (hexN j u).map bc := set_drop (by omega) (by rw [show 64 - j + 1 = 65 - j by omega]; exact hdr)
  have hnx : (hexN (j + 1) u).map bc = bc (hd (x % 16)) :: (hexN j u).map bc := by rw [hexN_succ', hxe]; rfl
  rw [← hnx] at hset
  by_cases hge : 16 ≤ x
  · have hsz : ((x % 16 : Nat) : Int) < ((digs.size : Nat) : Int) := by show _ < (36 : Int); omega
    have hv : Value.int .u8 (sb digs ((x % 16 : Nat) : Int).toNat) = bc (hd (x % 16)) := by rw [Int.toNat_natCast, digs_at _ hml]; rfl
    have hj15 : j < 15 := by
      rcases Nat.lt_or_ge j 15 with h | h
      · exact h
      · obtain rfl : j = 15 := by omega
        omega
    (refine Ga ?_)
    apply Lst_pu (v := bc (hd (x % 16)))
    · rw [← hv]
      apply P_sindex
      focus rfl
      focus rfl
      focus rfl
      focus omega
      exact hsz
    focus rfl
    (refine Ga ?_)
    apply Lst_storeN
    focus rfl
    focus constructor
    focus rfl
    focus rfl
    focus rfl
    focus rfl
    focus exact hblk
    focus omega
    rw [hoff]
    (refine Ga ?_)
    refine rndQ_n (j + 1, l.set (64 - j) (bc (hd (x % 16)))) ⟨?_, ?_, ?_, ?_, ?_⟩ ⟨?_, rfl, rfl, rfl, rfl, rfl, ?_, rfl, rfl, rfl, trivial⟩ ?_
    · dsimp only; omega
    · dsimp only; rw [List.length_set]; exact hl
    · dsimp only; rw [show 65 - (j + 1) = 64 - j by omega]; exact hset
    · dsimp only; exact Blk.put_same hblk.lt _ _
    · exact Sx.Below.put hb (Nat.le_refl _) _
    · show Value.int .u64 _ = _
      rw [Nat.pow_succ, ← Nat.div_div_eq_div_mul, hxe]
      rfl
    · show Value.int .i64 _ = _
      congr 1
      omega
    · omega
  · have hsz : (x : Int) < ((digs.size : Nat) : Int) := by show _ < (36 : Int); omega
    have hv : Value.int .u8 (sb digs (x : Int).toNat) = bc (hd (x % 16)) := by rw [Int.toNat_natCast, Nat.mod_eq_of_lt (by omega), digs_at _ (by omega)]; rfl
    (refine Ga ?_)
    apply Lst_pu (v := bc (hd (x % 16)))
    · rw [← hv]
      apply P_sindex
      focus rfl
      focus rfl
      focus rfl
      focus omega
      exact hsz
    focus rfl
    (refine Ga ?_)
    apply Lst_storeN
    focus rfl
    focus constructor
    focus rfl
    focus rfl
    focus rfl
    focus rfl
    focus exact hblk
    focus omega
    rw [hoff]
    (refine Ga ?_)
    have hlen : (hexN (j + 1) u).length = 65 - (65 - (j : Int) - 1).toNat := by rw [hexN_length]; omega
    apply Lst_bytes (l := hexN (j + 1) u)
    focus rfl
    focus exact hlen
    focus rfl
    focus rfl
    focus rfl
    focus (
      intro i hi
      rw [hexN_length] at hi
      have hb' : Blk (A.putObj w.heap.size (.cells (l.set (64 - j) (bc (hd (x % 16)))).toArray 124)) w.heap.size (l.set (64 - j) (bc (hd (x % 16)))) 124 := Blk.put_same hblk.lt _ _
      refine (hb'.cell _).trans ?_
      rw [show (65 - (j : Int) - 1).toNat + i = 64 - j + i by omega, ← List.getElem?_drop, hset]
      rw [List.getElem?_map, List.getElem?_eq_getElem (by rw [hexN_length]; exact hi)]
      rfl)
    focus rfl
    (refine Ga ?_)
    (apply retQ2; (focus rfl); (focus rfl))
    refine ⟨⟨j + 1, by omega, ?_, rfl⟩, Bel⟩
    rw [Nat.pow_succ]
    have : 0 < 16 ^ j := Nat.pow_pos (by omega)
    rw [← hxe] at hge
    have h16 : u / 16 ^ j < 16 := by omega
    have := (Nat.div_lt_iff_lt_mul this).1 h16
    rw [Nat.mul_comm]
    exact this
theorem c_fuint (u : Nat) (hu : u < 18446744073709551616) (w : World) (hT : DeB w) : Does Tryd.prog 77 #[.int .u64 (u : Int), .int .i64 16] w fun v w' => (∃ L, L ≤ 16 ∧ u < 16 ^ L ∧ v = .string ⟨(hexN L u).toArray⟩) ∧ Below w.heap.size w w' := by
  refine Does_of (args := [.int .u64 (u : Int), .int .i64 16]) Tryd.func77 (by kernel_rfl) rfl rfl rfl rfl rfl ?_
  (refine Ga ?_)
  (apply Lst_call; (focus rfl); (focus rfl))
  refine (c_bitsOf16 u hu _ hT).mono ?_
  rintro v w1 ⟨⟨L, h1, h2, rfl⟩, hb1⟩
  (refine Ga ?_)
  (apply retQ1; (focus rfl))
  exact ⟨⟨L, h1, h2, rfl⟩, hb1⟩
theorem c_fuint' (u : Nat) (hu : u < 18446744073709551616) (w : World) (hT : DeB w) : Does Tryd.prog 64 #[.int .u64 (u : Int), .int .i64 16] w fun v w' => (∃ L, L ≤ 16 ∧ u < 16 ^ L ∧ v = .string ⟨(hexN L u).toArray⟩) ∧ Below w.heap.size w w' := by
  refine Does_of (args := [.int .u64 (u : Int), .int .i64 16]) Tryd.func64 (by kernel_rfl) rfl rfl rfl rfl rfl ?_
  (refine Ga ?_)
  (apply Lst_call; (focus rfl); (focus rfl))
  refine (c_fuint u hu _ hT).mono ?_
  rintro v w1 ⟨⟨L, h1, h2, rfl⟩, hb1⟩
  (refine Ga ?_)
  (apply retQ1; (focus rfl))
  exact ⟨⟨L, h1, h2, rfl⟩, hb1⟩
theorem c_hex (u : Nat) (hu : u < 18446744073709551616) (w : World) (hT : DeB w) : Does Tryd.prog 53 #[.int .u64 (u : Int)] w fun v w' => v = .string ⟨(hexN 16 u).toArray⟩ ∧ Below w.heap.size w w' := by
  refine Does_of (args := [.int .u64 (u : Int)]) Tryd.func53 (by kernel_rfl) rfl rfl rfl rfl rfl ?_
  (refine Ga ?_)
  (apply Lst_call; (focus rfl); (focus rfl))
  refine (c_fuint' u hu _ hT).mono ?_
  rintro v w1 ⟨⟨L, h1, h2, rfl⟩, hb1⟩
  have hlen : ((⟨(hexN L u).toArray⟩ : ByteArray).size : Int) = L := by
    show (((hexN L u).toArray.size : Nat) : Int) = L
    rw [List.size_toArray, hexN_length]
  have hlen' : (⟨(hexN L u).toArray⟩ : ByteArray).size = L := by omega
  have hrs : (⟨(List.replicate (16 - L) (48 : UInt8)).toArray⟩ : ByteArray).size = 16 - L := by
    show (List.replicate (16 - L) (48 : UInt8)).toArray.size = 16 - L
    rw [List.size_toArray, List.length_replicate]
  have hcat : (⟨(List.replicate (16 - L) (48 : UInt8)).toArray⟩ : ByteArray) ++ ⟨(hexN L u).toArray⟩ = ⟨(hexN 16 u).toArray⟩ := by
    have := hexN_pad (16 - L) L u h2
    rw [show 16 - L + L = 16 by omega] at this
    rw [this]
    apply ByteArray.ext
    rw [ByteArray.data_append]
    simp
  have harg : (16 - ((⟨(hexN L u).toArray⟩ : ByteArray).size : Int)) = ((16 - L : Nat) : Int) := by omega
  have hrep := fun A => c_repeat (16 - L) (by omega) A
  rw [← harg] at hrep
  (refine Ga ?_)
  (apply Lst_call; (focus rfl); (focus rfl))
  refine (hrep _).mono ?_
  rintro v w2 ⟨rfl, hb2⟩
  have b2 := Sx.Below.after (w := w) Bel hb2
  have s2 := hb2.size
  try simp only [Sx.sizes] at s2
  (refine Ga ?_)
  (apply retQ1; (focus rfl))
  exact ⟨by rw [← hcat]; rfl, Bel⟩
end Val
end Go.Proofs.YtglfoofclicfpaaDoor
