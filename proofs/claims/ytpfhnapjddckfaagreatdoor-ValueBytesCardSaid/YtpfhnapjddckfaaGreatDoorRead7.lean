/- wire.Reader: Fixed and Int. -/
import Derived.Test.YtpfhnapjddckfaaGreatDoorRead6
import Derived.Test.YtpfhnapjddckfaaGreatDoorReadP
namespace Go.Proofs.YtpfhnapjddckfaaGreatDoor
set_option maxRecDepth 100000
namespace Wire
open Go Go.RowKit Sx
theorem or_byte (n x : Nat) (hx : x < 256) : bits .or .u64 ((n % 72057594037927936 * 256 : Nat) : Int) (x : Int) = ((n % 72057594037927936 * 256 + x : Nat) : Int) := by
  have h : n % 72057594037927936 < 72057594037927936 := Nat.mod_lt _ (by omega)
  generalize n % 72057594037927936 = m at *
  have e1 : (BitVec.ofInt 64 ((m * 256 : Nat) : Int)).toNat = m * 256 := by
    rw [BitVec.toNat_ofInt]; omega
  have e2 : (BitVec.ofInt 64 (x : Int)).toNat = x := by
    rw [BitVec.toNat_ofInt]; omega
  show IntKind.u64.wrap ((BitVec.ofInt 64 ((m * 256 : Nat) : Int) ||| BitVec.ofInt 64 (x : Int)).toNat : Int) = _
  rw [BitVec.toNat_or, e1, e2]
  have h3 : m * 256 ||| x = m * 256 + x := by
    have := Nat.two_pow_add_eq_or_of_lt (i := 8) (b := x) (by omega) m
    rw [show 2 ^ 8 = 256 from rfl, Nat.mul_comm] at this
    exact this.symm
  rw [h3]
  exact wu64 (by omega) (by omega)
theorem shl_byte (n : Nat) : IntKind.u64.wrap ((n : Int) * 2 ^ 8) = ((n % 72057594037927936 * 256 : Nat) : Int) := by
  have e : IntKind.u64.wrap ((n : Int) * 2 ^ 8) = ((n : Int) * 256) % 18446744073709551616 := by
    unfold IntKind.wrap
    simp [IntKind.bits, IntKind.signed]
  rw [e]
  omega
theorem xor_i64 (x : Nat) (h : x < 9223372036854775808) : bits .xor .i64 (x : Int) 0 = (x : Int) ∧ bits .xor .i64 (x : Int) (-1) = -(x : Int) - 1 := by
  have e1 : (BitVec.ofInt 64 (x : Int)).toNat = x := by
    rw [BitVec.toNat_ofInt]; omega
  constructor
  · show IntKind.i64.wrap ((BitVec.ofInt 64 (x : Int) ^^^ BitVec.ofInt 64 0).toNat : Int) = _
    rw [show BitVec.ofInt 64 0 = 0#64 by decide, BitVec.xor_zero, e1]
    exact wi64 (by omega) (by omega)
  · show IntKind.i64.wrap ((BitVec.ofInt 64 (x : Int) ^^^ BitVec.ofInt 64 (-1)).toNat : Int) = _
    rw [show BitVec.ofInt 64 (-1) = BitVec.allOnes 64 by decide, BitVec.xor_allOnes, BitVec.toNat_not, e1]
    simp [IntKind.wrap, IntKind.signed, IntKind.bits]
    omega
theorem and_1 (n : Nat) (h : n < 18446744073709551616) : bits .and .u64 (n : Int) 1 = ((n % 2 : Nat) : Int) := by
  have e1 : (BitVec.ofInt 64 (n : Int)).toNat = n := by
    rw [BitVec.toNat_ofInt]; omega
  have e2 : (BitVec.ofInt 64 1).toNat = 2 ^ 1 - 1 := by decide
  show IntKind.u64.wrap ((BitVec.ofInt 64 (n : Int) &&& BitVec.ofInt 64 1).toNat : Int) = _
  rw [BitVec.toNat_and, e1, e2, Nat.and_two_pow_sub_one_eq_mod]
  exact wu64 (by omega) (by omega)
attribute [local irreducible] W Lst Qst Pu seqQ blkQ rndQ cutQ retQ Does Enters IntKind.wrap bits sb World.alloc World.putObj Blk
theorem c_FixedF (b ra rn : Nat) (l : List UInt8) (w : World) (hra : Blk w ra [.pointer (some ⟨b, 0, none⟩)] 36) (hrn : Blk w rn [.int .u64 0] 47) (h : RdAt w b l 0) :
    Tries Tryz.prog 64 #[.pointer (some ⟨ra, 0, none⟩), .pointer (some ⟨rn, 0, none⟩)] w
      (fun _ w' => (8 ≤ l.length ∧ Blk w' rn [.int .u64 (fold8 (l.take 8) 0 : Int)] 47 ∧ RdAt w' b (l.drop 8) 0) ∧ Chg [b, rn] w w')
      (fun v w' => l.length < 8 ∧ (∃ e : Int, v = badV e ∧ e ≠ 0) ∧ Chg [b] w w' ∧ ∃ x c y, Blk w' b [.slice x c y, .int .i64 0] 65) := by
  refine Tries_of (args := [.pointer (some ⟨ra, 0, none⟩), .pointer (some ⟨rn, 0, none⟩)]) Tryz.func64 (by kernel_rfl) rfl rfl rfl rfl rfl ?_
  have hne : rn ≠ b := by
    rintro rfl
    obtain ⟨a, c, hb, _, _⟩ := h
    have := Blk.inj hb hrn
    simp at this
  (refine Ga ?_)
  apply Lst_callF
  focus rfl
  focus rfl
  refine (c_take b 8 l (by omega) w h).mono ?_ ?_
  · rintro v w1 ⟨h8, ⟨a, rfl, hi⟩, hrd, hc⟩
    have hrn1 := hc.blk hrn (by simpa using hne)
    have hlt := hrn1.lt
    generalize l.drop 8 = l' at hrd ⊢
    have hlen : (l.take 8).length = 8 := by simp; omega
    generalize l.take 8 = k at *
    clear hra hrn h
    (refine Ga ?_)
    have e0 : fold8 (k.take 0) 0 = 0 := rfl
    refine W_loop (α := Nat) (fun x => [(1, .pointer (some ⟨rn, 0, none⟩)), (5, .slice a 8 8), (6, .int .i64 8), (7, .int .i64 (x : Int))])
      (fun x A => x ≤ 8 ∧ Ints A .u8 (.slice a 8 8) (nums k) ∧ Blk A rn [.int .u64 (fold8 (k.take x) 0 : Int)] 47 ∧ RdAt A b l' 0 ∧ Chg [b, rn] w A) (fun x _ => 8 - x) 0
      ⟨Nat.zero_le _, hi, by rw [e0]; exact hrn1, hrd, hc.mono (by simp)⟩ ⟨rfl, rfl, rfl, rfl, trivial⟩ ?_
    clear hi hrn1 hrd hc hlt
    rintro J x A ⟨hx, hi, hrn, hrd, hc⟩
    have hlt := hrn.lt
    by_cases hx8 : x = 8
    · subst hx8
      (refine Ga ?_)
      apply retF_n
      rw [show k.take 8 = k from List.take_of_length_le (by omega)] at hrn
      exact retQ0n ⟨⟨h8, hrn, hrd⟩, hc⟩
    · obtain ⟨g, off, hg, hcell⟩ := Sx.Ints.at hi (j := x) (by omega)
      subst hg
      have hy : (nums k).getD x 0 = ((k[x]'(by omega)).toNat : Int) := by
        unfold nums
        rw [List.getD_eq_getElem?_getD, List.getElem?_map, List.getElem?_eq_getElem (by omega)]
        rfl
      rw [hy] at hcell
      have hf : fold8 (k.take (x + 1)) 0 = fold8 (k.take x) 0 % 72057594037927936 * 256 + (k[x]'(by omega)).toNat := by
        rw [List.take_succ_eq_append_getElem (by omega)]
        unfold fold8
        rw [List.foldl_append]
        rfl
      have hx256 := UInt8.toNat_lt (k[x]'(by omega))
      generalize (k[x]'(by omega)).toNat = y at *
      generalize fold8 (k.take x) 0 = n at *
      have hsh := shl_byte n
      have hor := or_byte n y hx256
      have hwy : IntKind.u64.wrap (y : Int) = (y : Int) := wu64 (by omega) (by omega)
      (refine Ga ?_)
      have hc3 : Chg [rn] A (A.putObj rn (.cells [.int .u64 ((n % 72057594037927936 * 256 + y : Nat) : Int)].toArray 47)) := (Chg.refl _ _).put (by simp) _
      have h83 : ∀ g ∈ [rn], N8 A g := by
        intro g hg
        obtain rfl : g = rn := by simpa using hg
        exact N8.int hrn (by decide)
      refine rndQ_n (α := Nat) (x + 1) ⟨by omega, Ints.chg hi hc3 h83, by rw [hf]; exact Blk.put_same hlt _ _, hrd.chg hc3 (by simpa using hne.symm) h83, hc.put (by simp) _⟩ ⟨rfl, rfl, rfl, ?_, trivial⟩ (by omega)
      show Value.int .i64 ((x : Int) + 1) = Value.int .i64 ((x + 1 : Nat) : Int)
      rw [Int.natCast_add]
      rfl
  · rintro v w1 ⟨hr, he, hc, hB⟩
    repeat (first | apply seqQ_f | apply blkQ_f)
    exact retF_p ⟨hr, he, hc, hB⟩
theorem c_RFixed (b : Nat) (s : Option (List UInt8)) (w : World) (h : RS w b s) : Does Tryz.prog 41 #[.pointer (some ⟨b, 0, none⟩)] w fun v w' => v = .int .u64 ((mFixed s).1 : Int) ∧ RS w' b (mFixed s).2 ∧ Chg [b] w w' := by
  refine Does_of (args := [.pointer (some ⟨b, 0, none⟩)]) Tryz.func41 (by kernel_rfl) rfl rfl rfl rfl rfl ?_
  obtain ⟨l, e, hrd, rfl⟩ := h.rd
  obtain ⟨a, c, hb, hi, hc⟩ := id hrd
  have hlt := hb.lt
  (refine Ga ?_)
  have hst1 : ((w.alloc (.cells [.pointer (some ⟨b, 0, none⟩)].toArray 36)).alloc (.cells [.int .u64 0].toArray 47)).heap.size = w.heap.size + 2 := by simp only [Sx.sizes]
  have hch : Chg [b] w ((w.alloc (.cells [.pointer (some ⟨b, 0, none⟩)].toArray 36)).alloc (.cells [.int .u64 0].toArray 47)) := ((Chg.refl _ _).alloc _).alloc _
  have hra : Blk ((w.alloc (.cells [.pointer (some ⟨b, 0, none⟩)].toArray 36)).alloc (.cells [.int .u64 0].toArray 47)) w.heap.size [.pointer (some ⟨b, 0, none⟩)] 36 := (by (repeat (first | assumption | (apply Blk.below (hb := hb1); rotate_left; (focus ((try simp only [Sx.sizes]); omega)); rotate_right) | (apply Blk.below (hb := hb2); rotate_left; (focus ((try simp only [Sx.sizes]); omega)); rotate_right) | (apply Blk.below (hb := hb3); rotate_left; (focus ((try simp only [Sx.sizes]); omega)); rotate_right) | (apply Blk.below (hb := hb4); rotate_left; (focus ((try simp only [Sx.sizes]); omega)); rotate_right) | (apply Blk.below (hb := hb5); rotate_left; (focus ((try simp only [Sx.sizes]); omega)); rotate_right) | (apply Blk.below (hb := hb6); rotate_left; (focus ((try simp only [Sx.sizes]); omega)); rotate_right) | (apply Blk.below (hb := hb7); rotate_left; (focus ((try simp only [Sx.sizes]); omega)); rotate_right) | (apply Blk.below (hb := hb8); rotate_left; (focus ((try simp only [Sx.sizes]); omega)); rotate_right) | (apply Blk.below (hb := hb9); rotate_left; (focus ((try simp only [Sx.sizes]); omega)); rotate_right) | exact Blk.newE (by first | rfl | ((try simp only [Sx.sizes]); first | done | omega)) _ _ | exact Blk.put_same (by (try simp only [Sx.sizes]); first | done | omega) _ _ | (apply Blk.put_ne; (focus omega)) | apply Blk.alloc | apply Blk.drew)); done)
  have hrn : Blk ((w.alloc (.cells [.pointer (some ⟨b, 0, none⟩)].toArray 36)).alloc (.cells [.int .u64 0].toArray 47)) (w.heap.size + 1) [.int .u64 0] 47 := (by (repeat (first | assumption | (apply Blk.below (hb := hb1); rotate_left; (focus ((try simp only [Sx.sizes]); omega)); rotate_right) | (apply Blk.below (hb := hb2); rotate_left; (focus ((try simp only [Sx.sizes]); omega)); rotate_right) | (apply Blk.below (hb := hb3); rotate_left; (focus ((try simp only [Sx.sizes]); omega)); rotate_right) | (apply Blk.below (hb := hb4); rotate_left; (focus ((try simp only [Sx.sizes]); omega)); rotate_right) | (apply Blk.below (hb := hb5); rotate_left; (focus ((try simp only [Sx.sizes]); omega)); rotate_right) | (apply Blk.below (hb := hb6); rotate_left; (focus ((try simp only [Sx.sizes]); omega)); rotate_right) | (apply Blk.below (hb := hb7); rotate_left; (focus ((try simp only [Sx.sizes]); omega)); rotate_right) | (apply Blk.below (hb := hb8); rotate_left; (focus ((try simp only [Sx.sizes]); omega)); rotate_right) | (apply Blk.below (hb := hb9); rotate_left; (focus ((try simp only [Sx.sizes]); omega)); rotate_right) | exact Blk.newE (by first | rfl | ((try simp only [Sx.sizes]); first | done | omega)) _ _ | exact Blk.put_same (by (try simp only [Sx.sizes]); first | done | omega) _ _ | (apply Blk.put_ne; (focus omega)) | apply Blk.alloc | apply Blk.drew)); done)
  have hb1 : Blk ((w.alloc (.cells [.pointer (some ⟨b, 0, none⟩)].toArray 36)).alloc (.cells [.int .u64 0].toArray 47)) b [.slice a l.length c, .int .i64 e] 65 := (by (repeat (first | assumption | (apply Blk.below (hb := hb1); rotate_left; (focus ((try simp only [Sx.sizes]); omega)); rotate_right) | (apply Blk.below (hb := hb2); rotate_left; (focus ((try simp only [Sx.sizes]); omega)); rotate_right) | (apply Blk.below (hb := hb3); rotate_left; (focus ((try simp only [Sx.sizes]); omega)); rotate_right) | (apply Blk.below (hb := hb4); rotate_left; (focus ((try simp only [Sx.sizes]); omega)); rotate_right) | (apply Blk.below (hb := hb5); rotate_left; (focus ((try simp only [Sx.sizes]); omega)); rotate_right) | (apply Blk.below (hb := hb6); rotate_left; (focus ((try simp only [Sx.sizes]); omega)); rotate_right) | (apply Blk.below (hb := hb7); rotate_left; (focus ((try simp only [Sx.sizes]); omega)); rotate_right) | (apply Blk.below (hb := hb8); rotate_left; (focus ((try simp only [Sx.sizes]); omega)); rotate_right) | (apply Blk.below (hb := hb9); rotate_left; (focus ((try simp only [Sx.sizes]); omega)); rotate_right) | exact Blk.newE (by first | rfl | ((try simp only [Sx.sizes]); first | done | omega)) _ _ | exact Blk.put_same (by (try simp only [Sx.sizes]); first | done | omega) _ _ | (apply Blk.put_ne; (focus omega)) | apply Blk.alloc | apply Blk.drew)); done)
  generalize ((w.alloc (.cells [.pointer (some ⟨b, 0, none⟩)].toArray 36)).alloc (.cells [.int .u64 0].toArray 47)) = W at *
  have hrd1 : RdAt W b l e := ⟨a, c, hb1, Ints.chgb hi hb hch, hc⟩
  (apply Lst_call; (focus rfl); (focus rfl))
  refine (c_Guard b l.length c a e 64 [.pointer (some ⟨w.heap.size, 0, none⟩), .pointer (some ⟨w.heap.size + 1, 0, none⟩)] [w.heap.size + 1] W hb1 (by simp; omega)
    (fun w' => 8 ≤ l.length ∧ Blk w' (w.heap.size + 1) [.int .u64 (fold8 (l.take 8) 0 : Int)] 47 ∧ RdAt w' b (l.drop 8) 0) (l.length < 8) ?_ ?_).mono ?_
  · rintro w1 w2 ⟨h8, hB, hR⟩ hc he
    refine ⟨h8, hc.blk hB (by simp; omega), hR.chg hc (by simp; omega) ?_⟩
    intro g hg
    obtain rfl : g = W.heap.size := by simpa using hg
    exact N8.int he (by decide)
  · rintro rfl
    have hbel : Below W.heap.size W (W.alloc (.cells [.int .i64 0].toArray 40)) := (Below.refl _ _).alloc (Nat.le_refl _) _
    exact c_FixedF b w.heap.size (w.heap.size + 1) l _ (hra.below hbel hra.lt) (hrn.below hbel hrn.lt) (hrd1.below hbel (Nat.le_refl _))
  · rintro v w' ⟨hc2, hor⟩
    have hcc : Chg [b] w w' := Chg.over hch (by simp) hc2
    rcases hor with ⟨rfl, rfl, h8, hB, hR⟩ | ⟨rfl, hK, hc3, e', he', hB⟩
    · have hm : mFixed (if (0 : Int) = 0 then some l else none) = (fold8 (l.take 8) 0, some (l.drop 8)) := if_pos h8
      rw [hm]
      (refine Ga ?_)
      (apply retQ1; (focus rfl))
      exact ⟨rfl, hR, hcc⟩
    · have hrn3 := hc3.blk hrn (by simp; omega)
      have hm : mFixed (if e = 0 then some l else none) = (0, none) := by
        by_cases he : e = 0
        · rw [if_pos he]
          exact if_neg (by have := hK he; omega)
        · rw [if_neg he]
          rfl
      rw [hm]
      (refine Ga ?_)
      (apply retQ1; (focus rfl))
      exact ⟨rfl, ⟨l, e', he', a, c, hB, Ints.chgb hi hb hcc, hc⟩, hcc⟩
theorem c_RInt (b : Nat) (s : Option (List UInt8)) (w : World) (h : RS w b s) : Does Tryz.prog 40 #[.pointer (some ⟨b, 0, none⟩)] w fun v w' => v = .int .i64 (mInt s).1 ∧ RS w' b (mInt s).2 ∧ Chg [b] w w' := by
  refine Does_of (args := [.pointer (some ⟨b, 0, none⟩)]) Tryz.func40 (by kernel_rfl) rfl rfl rfl rfl rfl ?_
  unfold mInt
  have hu := c_RUint b 18446744073709551615 s w h
  generalize mUint 18446744073709551615 s = p at *
  obtain ⟨n, s'⟩ := p
  dsimp only at *
  (refine Ga ?_)
  (apply Lst_call; (focus rfl); (focus rfl))
  refine hu.mono ?_
  rintro v w1 ⟨rfl, hr, hc, hn⟩
  have hand := and_1 n hn
  have hsh : ((n : Int)) / 2 = ((n / 2 : Nat) : Int) := (Int.natCast_ediv n 2).symm
  have hx := xor_i64 (n / 2) (by omega)
  have hd : n / 2 < 9223372036854775808 := by omega
  unfold unzig
  generalize n / 2 = q at *
  by_cases h2 : n % 2 = 0
  · rw [if_pos h2]
    rw [h2] at hand
    have hw0 : IntKind.i64.wrap ((0 : Nat) : Int) = 0 := wi64 (by omega) (by omega)
    have hn0 : IntKind.i64.wrap (-0 : Int) = 0 := wi64 (by omega) (by omega)
    (refine Ga ?_)
    (apply retQ1; (focus rfl))
    refine ⟨?_, hr, hc⟩
    show Value.int .i64 (bits .xor .i64 ((n : Int) / 2) 0) = _
    rw [hsh, hx.1]
  · rw [if_neg h2]
    rw [show n % 2 = 1 by omega] at hand
    have hw0 : IntKind.i64.wrap ((1 : Nat) : Int) = 1 := wi64 (by omega) (by omega)
    (refine Ga ?_)
    (apply retQ1; (focus rfl))
    refine ⟨?_, hr, hc⟩
    show Value.int .i64 (bits .xor .i64 ((n : Int) / 2) (-1)) = _
    rw [hsh, hx.2]
end Wire
end Go.Proofs.YtpfhnapjddckfaaGreatDoor
