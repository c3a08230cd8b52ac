/- wire.Reader: what is read within Guard: Byte, Fixed. -/
import Derived.Test.YtoljcnlmockpcaaRead4
namespace Go.Proofs.Ytoljcnlmockpcaa
set_option maxRecDepth 100000
namespace Wire
open Go Go.RowKit Sx
theorem Ints.spot {w : World} {k : IntKind} {a : Option Addr} {m c : Nat} {zs : List Int} (h : Ints w k (.slice a m c) zs) : ∀ x, a = some x → x.spot = none := by
  obtain ⟨b, off, cap, h1, _⟩ := h
  rintro x rfl
  rcases h1 with h1 | ⟨h1, _⟩
  · cases h1
    rfl
  · cases h1
theorem Chg.over {b : Nat} {X : List Nat} {w W w' : World} (h1 : Chg [b] w W) (hX : ∀ x ∈ X, w.heap.size ≤ x) (h2 : Chg (b :: X) W w') : Chg [b] w w' :=
  ⟨h2.os.trans h1.os, h2.tape.trans h1.tape, h2.output.trans h1.output, Nat.le_trans h1.size h2.size, fun q hq hn => (h2.block q (Nat.lt_of_lt_of_le hq h1.size) (by
    intro hm
    rcases List.mem_cons.1 hm with hm | hm
    · exact hn (by simp [hm])
    · have := hX q hm
      omega)).trans (h1.block q hq hn)⟩
/-- The number that bytes tell, the greatest first. -/
def fold8 (l : List UInt8) (n : Nat) : Nat := l.foldl (fun n x => n % 72057594037927936 * 256 + x.toNat) n
def mFixed : Option (List UInt8) → Nat × Option (List UInt8)
  | some l => if 8 ≤ l.length then (fold8 (l.take 8) 0, some (l.drop 8)) else (0, none)
  | none => (0, none)
def mText (most : Nat) (s : Option (List UInt8)) : List UInt8 × Option (List UInt8) :=
  match s.bind (rdU most 0 0) with
  | some (n, l) => if n ≤ l.length then (l.take n, some (l.drop n)) else ([], none)
  | none => ([], none)
theorem RdAt.cut {w : World} {b n m c : Nat} {a : Option Addr} {l : List UInt8} {z : Int} (hi : Ints w .u8 (.slice a m c) (nums l)) (hm : m = l.length) (hc : m ≤ c) (hn : n ≤ m) (hx : l ≠ [] → ∀ x, a = some x → x.block < b) (hb : Blk w b [sliced a n m c 1, .int .i64 z] 109) : RdAt w b (l.drop n) z := by
  subst hm
  have hsub := Ints.sub hi hc hn (Nat.le_refl l.length)
  rw [show ((nums l).take l.length).drop n = nums (l.drop n) by rw [nums_take, List.take_length, nums_drop]] at hsub
  unfold sliced at hb hsub
  rw [← List.length_drop] at hb hsub
  exact ⟨_, c - n, hb, hsub, by rw [List.length_drop]; omega, below_cut hx⟩
attribute [local irreducible] W Lst Qst Pu seqQ blkQ rndQ cutQ retQ Does Enters IntKind.wrap bits sb World.alloc World.putObj Blk
theorem c_takeB (b n m c : Nat) (a : Option Addr) (hn : n ≤ 281474976710656) (hmc : m ≤ c) (ha : ∀ x, a = some x → x.spot = none) (w : World) (hb : Blk w b [.slice a m c, .int .i64 0] 109) :
    Tries Try.prog 64 #[.pointer (some ⟨b, 0, none⟩), .int .i64 (n : Int)] w
      (fun v w' => n ≤ m ∧ v = .slice a n n ∧ Blk w' b [sliced a n m c 1, .int .i64 0] 109 ∧ Chg [b] w w')
      (fun v w' => m < n ∧ Bad w b v w') := by
  refine Tries_of (args := [.pointer (some ⟨b, 0, none⟩), .int .i64 (n : Int)]) Try.func64 (by kernel_rfl) rfl rfl rfl rfl rfl ?_
  by_cases hln : m < n
  · (refine Ga ?_)
    apply Lst_callF
    focus rfl
    focus rfl
    refine (c_Fail 10 (by decide) w).mono (fun v w' h => h.elim) ?_
    rintro v w' ⟨rfl, rfl⟩
    repeat (first | apply seqQ_f | apply blkQ_f)
    exact retF_p ⟨hln, ⟨_, rfl, by decide⟩, Chg.refl _ _, _, _, _, hb⟩
  · have hn2 : n ≤ m := by omega
    (refine Ga ?_)
    apply Lst_pu
    · apply P_lslice3
      focus rfl
      focus rfl
      focus rfl
      focus rfl
      focus rfl
      focus rfl
      focus omega
      focus omega
    focus rfl
    have hce := sliced3 a n ha
    (refine Ga ?_)
    apply retF_r
    (apply retQ1; (focus rfl))
    have hch : Chg [b] w (w.putObj b (.cells [sliced a n m c 1, .int .i64 0].toArray 109)) := (Chg.refl _ _).put (by simp) _
    exact ⟨hn2, hce, Blk.put_same hb.lt _ _, hch⟩
theorem c_ByteF (b ra rx c : Nat) (a : Option Addr) (l : List UInt8) (hlc : l.length ≤ c) (w : World) (hra : Blk w ra [.pointer (some ⟨b, 0, none⟩)] 87) (hrx : Blk w rx [.int .u8 0] 5) (hb : Blk w b [.slice a l.length c, .int .i64 0] 109) (hi : Ints w .u8 (.slice a l.length c) (nums l)) :
    Tries Try.prog 63 #[.pointer (some ⟨ra, 0, none⟩), .pointer (some ⟨rx, 0, none⟩)] w
      (fun _ w' => (∃ x l', l = x :: l' ∧ Blk w' rx [.int .u8 (x.toNat : Int)] 5 ∧ Blk w' b [sliced a 1 l.length c 1, .int .i64 0] 109) ∧ Chg [b, rx] w w')
      (fun v w' => l = [] ∧ (∃ e : Int, v = badV e ∧ e ≠ 0) ∧ Chg [b] w w' ∧ ∃ x c y, Blk w' b [.slice x c y, .int .i64 0] 109) := by
  refine Tries_of (args := [.pointer (some ⟨ra, 0, none⟩), .pointer (some ⟨rx, 0, none⟩)]) Try.func63 (by kernel_rfl) rfl rfl rfl rfl rfl ?_
  have hne : rx ≠ b := by
    rintro rfl
    have := Blk.inj hb hrx
    simp at this
  (refine Ga ?_)
  apply Lst_callF
  focus rfl
  focus rfl
  refine (c_takeB b 1 l.length c a (by decide) hlc (Ints.spot hi) w hb).mono ?_ ?_
  · rintro v w1 ⟨h1, rfl, hb1, hc⟩
    cases l with
    | nil => simp at h1
    | cons x l3 =>
    have hrx1 := hc.blk hrx (by simpa using hne)
    have hlt := hrx1.lt
    have hi1 := Ints.chgb hi hb hc
    obtain ⟨g, off, hg, hcell⟩ := Sx.Ints.at hi1 (j := 0) (by simp)
    subst hg
    have hx : (nums (x :: l3)).getD 0 0 = (x.toNat : Int) := rfl
    rw [hx] at hcell
    (refine Ga ?_)
    apply Lst_pu
    · apply P_idx
      focus rfl
      focus rfl
      focus rfl
      focus rfl
      focus rfl
      focus omega
      focus omega
    focus rfl
    (refine Ga ?_)
    apply retF_n
    exact retQ0n ⟨⟨x, l3, rfl, Blk.put_same hlt _ _, by exact (by (repeat (first | assumption | (apply Blk.below (hb := hb1); rotate_left; (focus ((try simp only [Sx.sizes]); omega)); rotate_right) | (apply Blk.below (hb := hb2); rotate_left; (focus ((try simp only [Sx.sizes]); omega)); rotate_right) | (apply Blk.below (hb := hb3); rotate_left; (focus ((try simp only [Sx.sizes]); omega)); rotate_right) | (apply Blk.below (hb := hb4); rotate_left; (focus ((try simp only [Sx.sizes]); omega)); rotate_right) | (apply Blk.below (hb := hb5); rotate_left; (focus ((try simp only [Sx.sizes]); omega)); rotate_right) | (apply Blk.below (hb := hb6); rotate_left; (focus ((try simp only [Sx.sizes]); omega)); rotate_right) | (apply Blk.below (hb := hb7); rotate_left; (focus ((try simp only [Sx.sizes]); omega)); rotate_right) | (apply Blk.below (hb := hb8); rotate_left; (focus ((try simp only [Sx.sizes]); omega)); rotate_right) | (apply Blk.below (hb := hb9); rotate_left; (focus ((try simp only [Sx.sizes]); omega)); rotate_right) | exact Blk.newE (by first | rfl | ((try simp only [Sx.sizes]); first | done | omega)) _ _ | exact Blk.put_same (by (try simp only [Sx.sizes]); first | done | omega) _ _ | (apply Blk.put_ne; (focus omega)) | apply Blk.alloc | apply Blk.drew)); done)⟩, (hc.mono (by simp)).put (by simp) _⟩
  · rintro v w1 ⟨hr, he, hc, hB⟩
    repeat (first | apply seqQ_f | apply blkQ_f)
    obtain rfl : l = [] := List.length_eq_zero_iff.1 (by omega)
    exact retF_p ⟨rfl, he, hc, hB⟩
theorem c_RByte (b : Nat) (s : Option (List UInt8)) (w : World) (h : RS w b s) : Does Try.prog 47 #[.pointer (some ⟨b, 0, none⟩)] w fun v w' => v = .int .u8 ((mByte s).1 : Int) ∧ RS w' b (mByte s).2 ∧ Chg [b] w w' ∧ (mByte s).1 < 256 := by
  refine Does_of (args := [.pointer (some ⟨b, 0, none⟩)]) Try.func47 (by kernel_rfl) rfl rfl rfl rfl rfl ?_
  obtain ⟨l, e, hrd, rfl⟩ := h.rd
  obtain ⟨a, c, hb, hi, hc⟩ := id hrd
  have hlt := hb.lt
  (refine Ga ?_)
  have hst1 : ((w.alloc (.cells [.pointer (some ⟨b, 0, none⟩)].toArray 87)).alloc (.cells [.int .u8 0].toArray 5)).heap.size = w.heap.size + 2 := by simp only [Sx.sizes]
  have hch : Chg [b] w ((w.alloc (.cells [.pointer (some ⟨b, 0, none⟩)].toArray 87)).alloc (.cells [.int .u8 0].toArray 5)) := ((Chg.refl _ _).alloc _).alloc _
  have hra : Blk ((w.alloc (.cells [.pointer (some ⟨b, 0, none⟩)].toArray 87)).alloc (.cells [.int .u8 0].toArray 5)) w.heap.size [.pointer (some ⟨b, 0, none⟩)] 87 := (by (repeat (first | assumption | (apply Blk.below (hb := hb1); rotate_left; (focus ((try simp only [Sx.sizes]); omega)); rotate_right) | (apply Blk.below (hb := hb2); rotate_left; (focus ((try simp only [Sx.sizes]); omega)); rotate_right) | (apply Blk.below (hb := hb3); rotate_left; (focus ((try simp only [Sx.sizes]); omega)); rotate_right) | (apply Blk.below (hb := hb4); rotate_left; (focus ((try simp only [Sx.sizes]); omega)); rotate_right) | (apply Blk.below (hb := hb5); rotate_left; (focus ((try simp only [Sx.sizes]); omega)); rotate_right) | (apply Blk.below (hb := hb6); rotate_left; (focus ((try simp only [Sx.sizes]); omega)); rotate_right) | (apply Blk.below (hb := hb7); rotate_left; (focus ((try simp only [Sx.sizes]); omega)); rotate_right) | (apply Blk.below (hb := hb8); rotate_left; (focus ((try simp only [Sx.sizes]); omega)); rotate_right) | (apply Blk.below (hb := hb9); rotate_left; (focus ((try simp only [Sx.sizes]); omega)); rotate_right) | exact Blk.newE (by first | rfl | ((try simp only [Sx.sizes]); first | done | omega)) _ _ | exact Blk.put_same (by (try simp only [Sx.sizes]); first | done | omega) _ _ | (apply Blk.put_ne; (focus omega)) | apply Blk.alloc | apply Blk.drew)); done)
  have hrx : Blk ((w.alloc (.cells [.pointer (some ⟨b, 0, none⟩)].toArray 87)).alloc (.cells [.int .u8 0].toArray 5)) (w.heap.size + 1) [.int .u8 0] 5 := (by (repeat (first | assumption | (apply Blk.below (hb := hb1); rotate_left; (focus ((try simp only [Sx.sizes]); omega)); rotate_right) | (apply Blk.below (hb := hb2); rotate_left; (focus ((try simp only [Sx.sizes]); omega)); rotate_right) | (apply Blk.below (hb := hb3); rotate_left; (focus ((try simp only [Sx.sizes]); omega)); rotate_right) | (apply Blk.below (hb := hb4); rotate_left; (focus ((try simp only [Sx.sizes]); omega)); rotate_right) | (apply Blk.below (hb := hb5); rotate_left; (focus ((try simp only [Sx.sizes]); omega)); rotate_right) | (apply Blk.below (hb := hb6); rotate_left; (focus ((try simp only [Sx.sizes]); omega)); rotate_right) | (apply Blk.below (hb := hb7); rotate_left; (focus ((try simp only [Sx.sizes]); omega)); rotate_right) | (apply Blk.below (hb := hb8); rotate_left; (focus ((try simp only [Sx.sizes]); omega)); rotate_right) | (apply Blk.below (hb := hb9); rotate_left; (focus ((try simp only [Sx.sizes]); omega)); rotate_right) | exact Blk.newE (by first | rfl | ((try simp only [Sx.sizes]); first | done | omega)) _ _ | exact Blk.put_same (by (try simp only [Sx.sizes]); first | done | omega) _ _ | (apply Blk.put_ne; (focus omega)) | apply Blk.alloc | apply Blk.drew)); done)
  have hb1 : Blk ((w.alloc (.cells [.pointer (some ⟨b, 0, none⟩)].toArray 87)).alloc (.cells [.int .u8 0].toArray 5)) b [.slice a l.length c, .int .i64 e] 109 := (by (repeat (first | assumption | (apply Blk.below (hb := hb1); rotate_left; (focus ((try simp only [Sx.sizes]); omega)); rotate_right) | (apply Blk.below (hb := hb2); rotate_left; (focus ((try simp only [Sx.sizes]); omega)); rotate_right) | (apply Blk.below (hb := hb3); rotate_left; (focus ((try simp only [Sx.sizes]); omega)); rotate_right) | (apply Blk.below (hb := hb4); rotate_left; (focus ((try simp only [Sx.sizes]); omega)); rotate_right) | (apply Blk.below (hb := hb5); rotate_left; (focus ((try simp only [Sx.sizes]); omega)); rotate_right) | (apply Blk.below (hb := hb6); rotate_left; (focus ((try simp only [Sx.sizes]); omega)); rotate_right) | (apply Blk.below (hb := hb7); rotate_left; (focus ((try simp only [Sx.sizes]); omega)); rotate_right) | (apply Blk.below (hb := hb8); rotate_left; (focus ((try simp only [Sx.sizes]); omega)); rotate_right) | (apply Blk.below (hb := hb9); rotate_left; (focus ((try simp only [Sx.sizes]); omega)); rotate_right) | exact Blk.newE (by first | rfl | ((try simp only [Sx.sizes]); first | done | omega)) _ _ | exact Blk.put_same (by (try simp only [Sx.sizes]); first | done | omega) _ _ | (apply Blk.put_ne; (focus omega)) | apply Blk.alloc | apply Blk.drew)); done)
  generalize ((w.alloc (.cells [.pointer (some ⟨b, 0, none⟩)].toArray 87)).alloc (.cells [.int .u8 0].toArray 5)) = W at *
  (apply Lst_call; (focus rfl); (focus rfl))
  refine (c_Guard b l.length c a e 63 [.pointer (some ⟨w.heap.size, 0, none⟩), .pointer (some ⟨w.heap.size + 1, 0, none⟩)] [w.heap.size + 1] W hb1 (by simp; omega)
    (fun w' => ∃ x l', l = x :: l' ∧ Blk w' (w.heap.size + 1) [.int .u8 (x.toNat : Int)] 5 ∧ Blk w' b [sliced a 1 l.length c 1, .int .i64 0] 109) (l = []) ?_ ?_).mono ?_
  · rintro w1 w2 ⟨x, l', hr, hB, hR⟩ hc he
    exact ⟨x, l', hr, hc.blk hB (by simp; omega), hc.blk hR (by simp; omega)⟩
  · rintro rfl
    have hbel : Below W.heap.size W (W.alloc (.cells [.int .i64 0].toArray 29)) := (Below.refl _ _).alloc (Nat.le_refl _) _
    exact c_ByteF b w.heap.size (w.heap.size + 1) c a l hc.1 _ (hra.below hbel hra.lt) (hrx.below hbel hrx.lt) (hb1.below hbel hb1.lt) (Ints.below (Ints.chgb hi hb hch) hbel (Nat.le_refl _))
  · rintro v w' ⟨hc2, hor⟩
    have hcc : Chg [b] w w' := Chg.over hch (by simp) hc2
    have hlen := UInt8.toNat_lt
    rcases hor with ⟨rfl, rfl, x, l', rfl, hB, hR⟩ | ⟨rfl, hK, hc3, e', he', hB⟩
    · have hi2 := Ints.chgb hi hb hcc
      (refine Ga ?_)
      (apply retQ1; (focus rfl))
      exact ⟨rfl, RdAt.cut hi2 rfl hc.1 (by simp) hc.2 hR, hcc, hlen x⟩
    · have hx : Blk w' (w.heap.size + 1) [.int .u8 0] 5 := hc3.blk hrx (by simp; omega)
      have hm : mByte (if e = 0 then some l else none) = (0, none) := by
        by_cases he : e = 0
        · rw [if_pos he, hK he]
          rfl
        · rw [if_neg he]
          rfl
      rw [hm]
      (refine Ga ?_)
      (apply retQ1; (focus rfl))
      exact ⟨rfl, ⟨l, e', he', a, c, hB, Ints.chgb hi hb hcc, hc⟩, hcc, by decide⟩
end Wire
end Go.Proofs.Ytoljcnlmockpcaa
