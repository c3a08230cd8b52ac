/- Package disk: Read, Append. -/
import Derived.Test.YtgcklcpbmlibdaaDk3
namespace Go.Proofs.Ytgcklcpbmlibdaa
set_option maxRecDepth 100000
namespace Dk
open Go Go.RowKit Sx
theorem N8.box {w : World} {b m c : Nat} {a : Option Addr} {z : Int} {e : TypeId} (h : Blk w b [.slice a m c, .int .i64 z] e) : N8 w b := fun off z => by
  rw [h.cell off]
  match off with
  | 0 => simp
  | 1 => simp
  | n + 2 => simp
attribute [local irreducible] W Lst Qst Pu seqQ blkQ rndQ cutQ retQ Does Enters IntKind.wrap bits sb World.alloc World.putObj Blk
theorem c_Read (p mb : Nat) (d : Dsk) (n : ByteArray) (hl : (d.file n).b.length ≤ 1000000) (w : World) (h : DkAt w p mb d) : Does Try.prog 17 #[.pointer (some ⟨p, 0, none⟩), .string n] w fun v w' =>
    (∃ sv, v = .tuple #[sv, .int .i64 (d.read n).2] ∧ Ints w' .u8 sv (nums (d.read n).1)) ∧ Below w.heap.size w w' := by
  refine Does_of (args := [.pointer (some ⟨p, 0, none⟩), .string n]) Try.func17 (by kernel_rfl) rfl rfl rfl rfl rfl ?_
  have hb := h.1
  have hlt := hb.lt
  unfold Dsk.read
  (refine Ga ?_)
  (apply Lst_call; (focus rfl); (focus rfl))
  refine (c_is p mb d n _ h).mono ?_
  rintro v w1 ⟨rfl, hb1⟩
  have b1 := Sx.Below.after (w := w) Bel hb1
  have s1 := hb1.size
  try simp only [Sx.sizes] at s1
  have h1 := h.below hb1
  by_cases h0 : d.isE n = 0
  · rw [if_pos h0]
    (refine Ga ?_)
    apply Lst_mapget (hmp := h1.2) (z := fz)
    focus rfl
    focus rfl
    focus rfl
    focus rfl
    focus exact fzero _
    focus rfl
    intro v there hg
    obtain ⟨a, c, rfl, hi, hmc, hs⟩ := Got.file hg
    clear hg
    generalize d.file n = g at hi hmc hs hl ⊢
    (refine Ga ?_)
    (apply Lst_call; (focus rfl); (focus rfl))
    refine (c_Clone _ g.b hl _ hi).mono ?_
    rintro u w2 ⟨hu, hb2⟩
    obtain ⟨u1, u2, rfl⟩ := hu.form
    (refine Ga ?_)
    apply retQ2
    focus rfl
    focus rfl
    exact ⟨⟨_, rfl, hu⟩, b1.trans (hb2.mono b1.size)⟩
  · rw [if_neg h0]
    (refine Ga ?_)
    apply retQ2
    focus rfl
    focus rfl
    exact ⟨⟨_, rfl, ⟨0, 0, 0, .inr ⟨rfl, rfl⟩, fun e => absurd rfl e, fun j hj => by simp [nums] at hj⟩⟩, b1⟩
theorem c_AppendBy (p mb : Nat) (d : Dsk) (hc : d.cut < 9223372036854775808) (n : ByteArray) (sv : Value) (l : List UInt8) (hul : used d.es + l.length ≤ 1099511627776) (hfl : (d.file n).b.length ≤ 1099511627776) (w : World) (h : DkAt w p mb d) (hsv : By w sv l) :
    Does Try.prog 11 #[.pointer (some ⟨p, 0, none⟩), .string n, sv] w fun v w' => v = .int .i64 (d.append n l).1 ∧ DkAt w' p mb (d.append n l).2 ∧ Chg [p, mb] w w' := by
  obtain ⟨s1, s2, rfl⟩ := hsv.form
  refine Does_of (args := [.pointer (some ⟨p, 0, none⟩), .string n, .slice s1 l.length s2]) Try.func11 (by kernel_rfl) rfl rfl rfl rfl rfl ?_
  have hb := h.1
  have hlt := hb.lt
  have hml := h.2.lt
  unfold Dsk.append Dsk.full
  (refine Ga ?_)
  apply Lst_mapget (hmp := h.2) (z := fz)
  focus rfl
  focus rfl
  focus rfl
  focus rfl
  focus exact fzero _
  focus rfl
  intro v there hg
  obtain ⟨a, c, rfl, hi, hmc, hs⟩ := Got.file hg
  clear hg
  generalize d.file n = g at hi hmc hs hfl ⊢
  cases hdd : d.dead with
  | true =>
    rw [hdd] at hb
    (refine Ga ?_)
    (apply retQ1; (focus rfl))
    exact ⟨rfl, h.below Bel, .of Bel⟩
  | false =>
    rw [hdd] at hb
    simp only [Bool.false_eq_true, if_false]
    (refine Ga ?_)
    (apply Lst_call; (focus rfl); (focus rfl))
    refine (c_name n _).mono ?_
    rintro v w' ⟨rfl, rfl⟩
    cases hnb : nameOk n
    · (refine Ga ?_)
      (apply retQ1; (focus rfl))
      exact ⟨rfl, h.below Bel, .of Bel⟩
    simp only [if_true]
    have uc := fun A hA => c_Used p mb d (by omega) A hA
    generalize used d.es = U at uc hul ⊢
    by_cases e1 : 4194304 < g.b.length + l.length
    · rw [decide_eq_true e1]
      (refine Ga ?_)
      refine W_draws (Grown _) rfl (by kernel_rfl) (grown_start _) ?_
      (refine Qb ?_)
      intro w9 hb9
      have b9 := Sx.Below.after (w := w) Bel hb9
      (refine Ga ?_)
      (apply retQ1; (focus rfl))
      exact ⟨rfl, h.below b9, .of b9⟩
    · rw [decide_eq_false e1]
      by_cases e2 : d.room < ((U + l.length : Nat) : Int)
      · rw [decide_eq_true e2]
        (refine Ga ?_)
        refine W_draws (Grown _) rfl (by kernel_rfl) (grown_start _) ?_
        (refine Qb ?_)
        apply Qst_call (.int .i64 (U : Int))
        focus rfl
        focus rfl
        · intro A9 hb9
          exact (uc A9 (h.below (Sx.Below.after (w := w) Bel hb9))).mono fun v w' h => ⟨h.1, Sx.Below.after hb9 h.2⟩
        (refine Qb ?_)
        intro w9 hb9
        have b9 := Sx.Below.after (w := w) Bel hb9
        (refine Ga ?_)
        (apply retQ1; (focus rfl))
        exact ⟨rfl, h.below b9, .of b9⟩
      · rw [decide_eq_false e2]
        (refine Ga ?_)
        refine W_draws (Grown _) rfl (by kernel_rfl) (grown_start _) ?_
        (refine Qb ?_)
        apply Qst_call (.int .i64 (U : Int))
        focus rfl
        focus rfl
        · intro A9 hb9
          exact (uc A9 (h.below (Sx.Below.after (w := w) Bel hb9))).mono fun v w' h => ⟨h.1, Sx.Below.after hb9 h.2⟩
        (refine Qb ?_)
        intro w1 hb1
        have b1 := Sx.Below.after (w := w) Bel hb1
        have s1' := b1.size
        (refine Ga ?_)
        (apply Lst_slit; (focus rfl); (focus rfl); (focus rfl); (focus rfl); (focus rfl); (focus rfl); (focus rfl); (focus rfl); (focus rfl); (focus (repeat (first | apply FillO.nil | (apply FillO.cons; (focus constructor); (focus rfl); (focus rfl); (focus (repeat constructor)))))); (focus ((try simp only [Sx.sizes]); first | done | rfl)); (focus rfl))
        (refine Ga ?_)
        (apply Lst_call; (focus rfl); (focus rfl))
        refine (c_Concat _ _ _ g.b l (by omega) _ (by (repeat (first | assumption | (apply Blk.below (hb := hb1); rotate_left; (focus ((try simp only [Sx.sizes]); omega)); rotate_right) | (apply Blk.below (hb := hb2); rotate_left; (focus ((try simp only [Sx.sizes]); omega)); rotate_right) | (apply Blk.below (hb := hb3); rotate_left; (focus ((try simp only [Sx.sizes]); omega)); rotate_right) | (apply Blk.below (hb := hb4); rotate_left; (focus ((try simp only [Sx.sizes]); omega)); rotate_right) | (apply Blk.below (hb := hb5); rotate_left; (focus ((try simp only [Sx.sizes]); omega)); rotate_right) | (apply Blk.below (hb := hb6); rotate_left; (focus ((try simp only [Sx.sizes]); omega)); rotate_right) | (apply Blk.below (hb := hb7); rotate_left; (focus ((try simp only [Sx.sizes]); omega)); rotate_right) | (apply Blk.below (hb := hb8); rotate_left; (focus ((try simp only [Sx.sizes]); omega)); rotate_right) | (apply Blk.below (hb := hb9); rotate_left; (focus ((try simp only [Sx.sizes]); omega)); rotate_right) | exact Blk.newE (by first | rfl | ((try simp only [Sx.sizes]); first | done | omega)) _ _ | exact Blk.put_same (by (try simp only [Sx.sizes]); first | done | omega) _ _ | (apply Blk.put_ne; (focus omega)) | apply Blk.alloc | apply Blk.drew)); done) (.inl (Ints.below hi Bel (Nat.le_refl _))) (By.below hsv Bel (Nat.le_refl _))).mono ?_
        rintro r w2 ⟨⟨a2, c2, rfl, hc2⟩, hr, hb2⟩
        have b2 := Sx.Below.after (w := w) Bel hb2
        have kb2 : Blk w2 w.heap.size [.slice a g.b.length c, .int .i64 (g.safe : Int)] 59 := (by (repeat (first | assumption | (apply Blk.below (hb := hb1); rotate_left; (focus ((try simp only [Sx.sizes]); omega)); rotate_right) | (apply Blk.below (hb := hb2); rotate_left; (focus ((try simp only [Sx.sizes]); omega)); rotate_right) | (apply Blk.below (hb := hb3); rotate_left; (focus ((try simp only [Sx.sizes]); omega)); rotate_right) | (apply Blk.below (hb := hb4); rotate_left; (focus ((try simp only [Sx.sizes]); omega)); rotate_right) | (apply Blk.below (hb := hb5); rotate_left; (focus ((try simp only [Sx.sizes]); omega)); rotate_right) | (apply Blk.below (hb := hb6); rotate_left; (focus ((try simp only [Sx.sizes]); omega)); rotate_right) | (apply Blk.below (hb := hb7); rotate_left; (focus ((try simp only [Sx.sizes]); omega)); rotate_right) | (apply Blk.below (hb := hb8); rotate_left; (focus ((try simp only [Sx.sizes]); omega)); rotate_right) | (apply Blk.below (hb := hb9); rotate_left; (focus ((try simp only [Sx.sizes]); omega)); rotate_right) | exact Blk.newE (by first | rfl | ((try simp only [Sx.sizes]); first | done | omega)) _ _ | exact Blk.put_same (by (try simp only [Sx.sizes]); first | done | omega) _ _ | (apply Blk.put_ne; (focus omega)) | apply Blk.alloc | apply Blk.drew)); done)
        have s2' := hb2.size
        simp only [Sx.sizes] at s2'
        (refine Ga ?_)
        refine W_draw 6 (Grown _) rfl (by kernel_rfl) (grown_start _) ?_
        (refine Qb ?_)
        intro w9 hb9
        have b9 := Sx.Below.after (w := w) Bel hb9
        have h9 := h.below b9
        have c9 : Chg [w.heap.size] w2 w9 := ((Chg.refl _ _).put (by simp) _).trans (Chg.of hb9)
        have hi9 := Ints.chg hr c9 (fun b hb => by
          obtain rfl : b = w.heap.size := by simpa using hb
          exact N8.box kb2)
        apply Lst_mapput (⟨g.b ++ l, g.safe⟩ : Fl) (hmp := h9.2)
        focus rfl
        focus rfl
        focus rfl
        focus rfl
        focus rfl
        focus exact ⟨a2, _, c2, rfl, hi9, hc2, by simp only [List.length_append]; omega⟩
        intro w10 hmp hch hsz
        have h10 := h9.putm hmp hch
        (refine Ga ?_)
        (apply Lst_call; (focus rfl); (focus rfl))
        refine (done_at h10 hc).mono ?_
        rintro v w11 ⟨rfl, hd, hcd⟩
        (refine Ga ?_)
        (apply retQ1; (focus rfl))
        rw [hdd] at hd
        exact ⟨rfl, hd, Chg.chain b9 hch hcd⟩
theorem c_Append (p mb : Nat) (d : Dsk) (hc : d.cut < 9223372036854775808) (n : ByteArray) (sv : Value) (l : List UInt8) (hul : used d.es + l.length ≤ 1099511627776) (hfl : (d.file n).b.length ≤ 1099511627776) (w : World) (h : DkAt w p mb d) (hsv : Ints w .u8 sv (nums l)) :
    Does Try.prog 11 #[.pointer (some ⟨p, 0, none⟩), .string n, sv] w fun v w' => v = .int .i64 (d.append n l).1 ∧ DkAt w' p mb (d.append n l).2 ∧ Chg [p, mb] w w' := c_AppendBy p mb d hc n sv l hul hfl w h (.inl hsv)
end Dk
end Go.Proofs.Ytgcklcpbmlibdaa
