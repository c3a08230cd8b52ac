/- wire.Reader: what is read within Guard: Uint, Byte. -/
import Derived.Test.YtoljcnlmockpcaaRead3
namespace Go.Proofs.Ytoljcnlmockpcaa
set_option maxRecDepth 100000
namespace Wire
open Go Go.RowKit Sx
/-- A reader: what is left, or a failure. -/
def RS (w : World) (b : Nat) : Option (List UInt8) → Prop
  | some l => RdAt w b l 0
  | none => ∃ l e, e ≠ 0 ∧ RdAt w b l e
/-- Its Uint. -/
def mUint (most : Nat) (s : Option (List UInt8)) : Nat × Option (List UInt8) :=
  match s.bind (rdU most 0 0) with
  | some (n, l) => (n, some l)
  | none => (0, none)
def mByte : Option (List UInt8) → Nat × Option (List UInt8)
  | some (x :: l) => (x.toNat, some l)
  | _ => (0, none)
theorem RdAt.rs {w : World} {b : Nat} {l : List UInt8} {e : Int} (h : RdAt w b l e) : RS w b (if e = 0 then some l else none) := by
  by_cases he : e = 0
  · subst he
    exact h
  · rw [if_neg he]
    exact ⟨l, e, he, h⟩
theorem RS.rd {w : World} {b : Nat} {s : Option (List UInt8)} (h : RS w b s) : ∃ l e, RdAt w b l e ∧ s = if e = 0 then some l else none := by
  cases s with
  | some l => exact ⟨l, 0, h, rfl⟩
  | none =>
    obtain ⟨l, e, he, h⟩ := h
    exact ⟨l, e, h, (if_neg he).symm⟩
theorem Ints.chgb {w w' : World} {b m c : Nat} {a : Option Addr} {z : Int} {e : TypeId} {v : Value} {zs : List Int} (h : Ints w .u8 v zs) (hb : Blk w b [.slice a m c, .int .i64 z] e) (hc : Chg [b] w w') : Ints w' .u8 v zs := by
  refine Ints.chg h hc ?_
  intro g hg
  obtain rfl : g = b := by simpa using hg
  exact N8.rd hb
theorem Blk.inj {w : World} {b : Nat} {l k : List Value} {e f : TypeId} (h : Blk w b l e) (h' : Blk w b k f) : l = k := by
  have := h.symm.trans h'
  simp at this
  exact this.1
attribute [local irreducible] W Lst Qst Pu seqQ blkQ rndQ cutQ retQ Does Enters IntKind.wrap bits sb World.alloc World.putObj Blk
theorem c_UintF (b most ra rm rn : Nat) (l : List UInt8) (w : World) (hra : Blk w ra [.pointer (some ⟨b, 0, none⟩)] 87) (hrm : Blk w rm [.int .u64 (most : Int)] 27) (hrn : Blk w rn [.int .u64 0] 27) (h : RdAt w b l 0) :
    Tries Try.prog 61 #[.pointer (some ⟨ra, 0, none⟩), .pointer (some ⟨rm, 0, none⟩), .pointer (some ⟨rn, 0, none⟩)] w
      (fun _ w' => (∃ n l', rdU most 0 0 l = some (n, l') ∧ n < 18446744073709551616 ∧ Blk w' rn [.int .u64 (n : Int)] 27 ∧ RdAt w' b l' 0) ∧ Chg [b, rn] w w')
      (fun v w' => rdU most 0 0 l = none ∧ (∃ e : Int, v = badV e ∧ e ≠ 0) ∧ Chg [b] w w' ∧ ∃ x c y, Blk w' b [.slice x c y, .int .i64 0] 109) := by
  refine Tries_of (args := [.pointer (some ⟨ra, 0, none⟩), .pointer (some ⟨rm, 0, none⟩), .pointer (some ⟨rn, 0, none⟩)]) Try.func61 (by kernel_rfl) rfl rfl rfl rfl rfl ?_
  have hne : rn ≠ b := by
    rintro rfl
    obtain ⟨a, c, hb, _, _⟩ := h
    have := Blk.inj hb hrn
    simp at this
  (refine Ga ?_)
  apply Lst_callF
  focus rfl
  focus rfl
  refine (c_uint b most l w h).mono ?_ ?_
  · rintro v w1 ⟨n, l', hr, hn, rfl, hrd, hc⟩
    have hrn1 := hc.blk hrn (by simpa using hne)
    have hlt := hrn1.lt
    (refine Ga ?_)
    apply retF_n
    have hc2 : Chg [rn] w1 (w1.putObj rn (.cells [.int .u64 (n : Int)].toArray 27)) := (Chg.refl _ _).put (by simp) _
    refine retQ0n ⟨⟨n, l', hr, hn, Blk.put_same hlt _ _, hrd.chg hc2 (by simpa using hne.symm) ?_⟩, (hc.mono (by simp)).put (by simp) _⟩
    intro g hg
    obtain rfl : g = rn := by simpa using hg
    exact N8.int hrn1 (by decide)
  · rintro v w1 ⟨hr, he, hc, hB⟩
    repeat (first | apply seqQ_f | apply blkQ_f)
    exact retF_p ⟨hr, he, hc, hB⟩
theorem c_RUint (b most : Nat) (s : Option (List UInt8)) (w : World) (h : RS w b s) : Does Try.prog 45 #[.pointer (some ⟨b, 0, none⟩), .int .u64 (most : Int)] w fun v w' => v = .int .u64 ((mUint most s).1 : Int) ∧ RS w' b (mUint most s).2 ∧ Chg [b] w w' ∧ (mUint most s).1 < 18446744073709551616 := by
  refine Does_of (args := [.pointer (some ⟨b, 0, none⟩), .int .u64 (most : Int)]) Try.func45 (by kernel_rfl) rfl rfl rfl rfl rfl ?_
  obtain ⟨l, e, hrd, rfl⟩ := h.rd
  obtain ⟨a, c, hb, hi, hc⟩ := id hrd
  have hlt := hb.lt
  (refine Ga ?_)
  have hst1 : (((w.alloc (.cells [.pointer (some ⟨b, 0, none⟩)].toArray 87)).alloc (.cells [.int .u64 (most : Int)].toArray 27)).alloc (.cells [.int .u64 0].toArray 27)).heap.size = w.heap.size + 3 := by simp only [Sx.sizes]
  have hch : Chg [b] w (((w.alloc (.cells [.pointer (some ⟨b, 0, none⟩)].toArray 87)).alloc (.cells [.int .u64 (most : Int)].toArray 27)).alloc (.cells [.int .u64 0].toArray 27)) := (((Chg.refl _ _).alloc _).alloc _).alloc _
  have hra : Blk (((w.alloc (.cells [.pointer (some ⟨b, 0, none⟩)].toArray 87)).alloc (.cells [.int .u64 (most : Int)].toArray 27)).alloc (.cells [.int .u64 0].toArray 27)) w.heap.size [.pointer (some ⟨b, 0, none⟩)] 87 := (by (repeat (first | assumption | (apply Blk.below (hb := hb1); rotate_left; (focus ((try simp only [Sx.sizes]); omega)); rotate_right) | (apply Blk.below (hb := hb2); rotate_left; (focus ((try simp only [Sx.sizes]); omega)); rotate_right) | (apply Blk.below (hb := hb3); rotate_left; (focus ((try simp only [Sx.sizes]); omega)); rotate_right) | (apply Blk.below (hb := hb4); rotate_left; (focus ((try simp only [Sx.sizes]); omega)); rotate_right) | (apply Blk.below (hb := hb5); rotate_left; (focus ((try simp only [Sx.sizes]); omega)); rotate_right) | (apply Blk.below (hb := hb6); rotate_left; (focus ((try simp only [Sx.sizes]); omega)); rotate_right) | (apply Blk.below (hb := hb7); rotate_left; (focus ((try simp only [Sx.sizes]); omega)); rotate_right) | (apply Blk.below (hb := hb8); rotate_left; (focus ((try simp only [Sx.sizes]); omega)); rotate_right) | (apply Blk.below (hb := hb9); rotate_left; (focus ((try simp only [Sx.sizes]); omega)); rotate_right) | exact Blk.newE (by first | rfl | ((try simp only [Sx.sizes]); first | done | omega)) _ _ | exact Blk.put_same (by (try simp only [Sx.sizes]); first | done | omega) _ _ | (apply Blk.put_ne; (focus omega)) | apply Blk.alloc | apply Blk.drew)); done)
  have hrm : Blk (((w.alloc (.cells [.pointer (some ⟨b, 0, none⟩)].toArray 87)).alloc (.cells [.int .u64 (most : Int)].toArray 27)).alloc (.cells [.int .u64 0].toArray 27)) (w.heap.size + 1) [.int .u64 (most : Int)] 27 := (by (repeat (first | assumption | (apply Blk.below (hb := hb1); rotate_left; (focus ((try simp only [Sx.sizes]); omega)); rotate_right) | (apply Blk.below (hb := hb2); rotate_left; (focus ((try simp only [Sx.sizes]); omega)); rotate_right) | (apply Blk.below (hb := hb3); rotate_left; (focus ((try simp only [Sx.sizes]); omega)); rotate_right) | (apply Blk.below (hb := hb4); rotate_left; (focus ((try simp only [Sx.sizes]); omega)); rotate_right) | (apply Blk.below (hb := hb5); rotate_left; (focus ((try simp only [Sx.sizes]); omega)); rotate_right) | (apply Blk.below (hb := hb6); rotate_left; (focus ((try simp only [Sx.sizes]); omega)); rotate_right) | (apply Blk.below (hb := hb7); rotate_left; (focus ((try simp only [Sx.sizes]); omega)); rotate_right) | (apply Blk.below (hb := hb8); rotate_left; (focus ((try simp only [Sx.sizes]); omega)); rotate_right) | (apply Blk.below (hb := hb9); rotate_left; (focus ((try simp only [Sx.sizes]); omega)); rotate_right) | exact Blk.newE (by first | rfl | ((try simp only [Sx.sizes]); first | done | omega)) _ _ | exact Blk.put_same (by (try simp only [Sx.sizes]); first | done | omega) _ _ | (apply Blk.put_ne; (focus omega)) | apply Blk.alloc | apply Blk.drew)); done)
  have hrn : Blk (((w.alloc (.cells [.pointer (some ⟨b, 0, none⟩)].toArray 87)).alloc (.cells [.int .u64 (most : Int)].toArray 27)).alloc (.cells [.int .u64 0].toArray 27)) (w.heap.size + 1 + 1) [.int .u64 0] 27 := (by (repeat (first | assumption | (apply Blk.below (hb := hb1); rotate_left; (focus ((try simp only [Sx.sizes]); omega)); rotate_right) | (apply Blk.below (hb := hb2); rotate_left; (focus ((try simp only [Sx.sizes]); omega)); rotate_right) | (apply Blk.below (hb := hb3); rotate_left; (focus ((try simp only [Sx.sizes]); omega)); rotate_right) | (apply Blk.below (hb := hb4); rotate_left; (focus ((try simp only [Sx.sizes]); omega)); rotate_right) | (apply Blk.below (hb := hb5); rotate_left; (focus ((try simp only [Sx.sizes]); omega)); rotate_right) | (apply Blk.below (hb := hb6); rotate_left; (focus ((try simp only [Sx.sizes]); omega)); rotate_right) | (apply Blk.below (hb := hb7); rotate_left; (focus ((try simp only [Sx.sizes]); omega)); rotate_right) | (apply Blk.below (hb := hb8); rotate_left; (focus ((try simp only [Sx.sizes]); omega)); rotate_right) | (apply Blk.below (hb := hb9); rotate_left; (focus ((try simp only [Sx.sizes]); omega)); rotate_right) | exact Blk.newE (by first | rfl | ((try simp only [Sx.sizes]); first | done | omega)) _ _ | exact Blk.put_same (by (try simp only [Sx.sizes]); first | done | omega) _ _ | (apply Blk.put_ne; (focus omega)) | apply Blk.alloc | apply Blk.drew)); done)
  have hb1 : Blk (((w.alloc (.cells [.pointer (some ⟨b, 0, none⟩)].toArray 87)).alloc (.cells [.int .u64 (most : Int)].toArray 27)).alloc (.cells [.int .u64 0].toArray 27)) b [.slice a l.length c, .int .i64 e] 109 := (by (repeat (first | assumption | (apply Blk.below (hb := hb1); rotate_left; (focus ((try simp only [Sx.sizes]); omega)); rotate_right) | (apply Blk.below (hb := hb2); rotate_left; (focus ((try simp only [Sx.sizes]); omega)); rotate_right) | (apply Blk.below (hb := hb3); rotate_left; (focus ((try simp only [Sx.sizes]); omega)); rotate_right) | (apply Blk.below (hb := hb4); rotate_left; (focus ((try simp only [Sx.sizes]); omega)); rotate_right) | (apply Blk.below (hb := hb5); rotate_left; (focus ((try simp only [Sx.sizes]); omega)); rotate_right) | (apply Blk.below (hb := hb6); rotate_left; (focus ((try simp only [Sx.sizes]); omega)); rotate_right) | (apply Blk.below (hb := hb7); rotate_left; (focus ((try simp only [Sx.sizes]); omega)); rotate_right) | (apply Blk.below (hb := hb8); rotate_left; (focus ((try simp only [Sx.sizes]); omega)); rotate_right) | (apply Blk.below (hb := hb9); rotate_left; (focus ((try simp only [Sx.sizes]); omega)); rotate_right) | exact Blk.newE (by first | rfl | ((try simp only [Sx.sizes]); first | done | omega)) _ _ | exact Blk.put_same (by (try simp only [Sx.sizes]); first | done | omega) _ _ | (apply Blk.put_ne; (focus omega)) | apply Blk.alloc | apply Blk.drew)); done)
  have hrd1 := RdAt.below hrd (((((Below.refl w.heap.size w).alloc (Nat.le_refl _) (.cells [.pointer (some ⟨b, 0, none⟩)].toArray 87)).alloc (by simp only [Sx.sizes]; omega) (.cells [.int .u64 (most : Int)].toArray 27)).alloc (by simp only [Sx.sizes]; omega) (.cells [.int .u64 0].toArray 27))) (Nat.le_refl _)
  generalize (((w.alloc (.cells [.pointer (some ⟨b, 0, none⟩)].toArray 87)).alloc (.cells [.int .u64 (most : Int)].toArray 27)).alloc (.cells [.int .u64 0].toArray 27)) = W at *
  (apply Lst_call; (focus rfl); (focus rfl))
  refine (c_Guard b l.length c a e 61 [.pointer (some ⟨w.heap.size, 0, none⟩), .pointer (some ⟨w.heap.size + 1, 0, none⟩), .pointer (some ⟨w.heap.size + 1 + 1, 0, none⟩)] [w.heap.size + 1 + 1] W hb1 (by simp; omega)
    (fun w' => ∃ n l', rdU most 0 0 l = some (n, l') ∧ n < 18446744073709551616 ∧ Blk w' (w.heap.size + 1 + 1) [.int .u64 (n : Int)] 27 ∧ RdAt w' b l' 0) (rdU most 0 0 l = none) ?_ ?_).mono ?_
  · rintro w1 w2 ⟨n, l', hr, hn, hB, hR⟩ hc he
    refine ⟨n, l', hr, hn, hc.blk hB (by simp; omega), hR.chg hc (by simp; omega) ?_⟩
    intro g hg
    obtain rfl : g = W.heap.size := by simpa using hg
    exact N8.int he (by decide)
  · rintro rfl
    have hbel : Below W.heap.size W (W.alloc (.cells [.int .i64 0].toArray 29)) := (Below.refl _ _).alloc (Nat.le_refl _) _
    exact c_UintF b most w.heap.size (w.heap.size + 1) (w.heap.size + 1 + 1) l _ (hra.below hbel hra.lt) (hrm.below hbel hrm.lt) (hrn.below hbel hrn.lt) (hrd1.below hbel (Nat.le_refl _))
  · rintro v w' ⟨hc2, ⟨rfl, rfl, n, l', hr, hn, hB, hR⟩ | ⟨rfl, hK, _, e', he', hB⟩⟩
    · have hcc : Chg [b] w w' := ⟨hc2.os.trans hch.os, hc2.tape.trans hch.tape, hc2.output.trans hch.output, Nat.le_trans hch.size hc2.size, fun q hq hn => (hc2.block q (by omega) (by simp at hn ⊢; omega)).trans (hch.block q hq hn)⟩
      have hm : mUint most (if (0 : Int) = 0 then some l else none) = (n, some l') := by
        unfold mUint
        rw [if_pos rfl]
        show (match rdU most 0 0 l with | some (n, l) => (n, some l) | none => (0, none)) = _
        rw [hr]
      rw [hm]
      (refine Ga ?_)
      (apply retQ1; (focus rfl))
      exact ⟨rfl, hR, hcc, hn⟩
    · have hcc : Chg [b] w w' := ⟨hc2.os.trans hch.os, hc2.tape.trans hch.tape, hc2.output.trans hch.output, Nat.le_trans hch.size hc2.size, fun q hq hn => (hc2.block q (by omega) (by simp at hn ⊢; omega)).trans (hch.block q hq hn)⟩
      have hm : mUint most (if e = 0 then some l else none) = (0, none) := by
        unfold mUint
        by_cases he : e = 0
        · rw [if_pos he]
          show (match rdU most 0 0 l with | some (n, l) => (n, some l) | none => (0, none)) = _
          rw [hK he]
        · rw [if_neg he]
          rfl
      rw [hm]
      (refine Ga ?_)
      (apply retQ1; (focus rfl))
      exact ⟨rfl, ⟨l, e', he', a, c, hB, Ints.chgb hi hb hcc, hc⟩, hcc, by decide⟩
end Wire
end Go.Proofs.Ytoljcnlmockpcaa
