/- SeqNoMix: a writer. -/
import Derived.Test.YtmammcgdjjldbaaSqMixP
import Derived.Test.YtmammcgdjjldbaaSqTwo
namespace Go.Proofs.Ytmammcgdjjldbaa
set_option maxRecDepth 100000
namespace Sq
open Go Go.RowKit Sx Tl
theorem Turn.put {F F' : Nat → Prop} {w w' : World} (h : Turn F F' w w') {b : Nat} (hb : w.heap.size ≤ b) (o : Obj) : Turn F F' w (w'.putObj b o) :=
  ⟨h.os, h.tape, h.output, by rw [World.putObj_size]; exact h.size, h.own, fun g hg hn => (World.putObj_heap_other (by omega)).trans (h.block g hg hn)⟩
theorem SqAt.put' {w : World} {p : Nat} {F : Nat → Prop} {t : Fo} (h : SqAt w p F t) {b : Nat} (hb : ¬ F b) (o : Obj) : SqAt (w.putObj b o) p F t :=
  h.kept rfl rfl rfl (by rw [World.putObj_size]; exact Nat.le_refl _) fun g hg => World.putObj_heap_other fun e => hb (e ▸ hg)
/-- A writer in the midst of its work. -/
structure Wr (A0 A : World) (p : Nat) (F0 F : Nat → Prop) (back : Bool) (cl : Nat) (l r : Id) (t : Fo) (bs bk b9 b10 i : Nat) : Prop where
  sq : SqAt A p F (wt back cl l r t i)
  turn : Turn F0 F A0 A
  k9 : Blk A b9 (idcs (wr back cl l r i).l) 32
  k10 : Blk A b10 (idcs (wr back cl l r i).r) 32
  ks : Blk A bs [.pointer (some ⟨p, 0, none⟩)] 27
  kk : Blk A bk [.bool back] 4
  n9 : ¬ F b9
  n10 : ¬ F b10
  ns : ¬ F bs
  nk : ¬ F bk
section
attribute [local irreducible] RnS
attribute [local irreducible] W Lst Qst Pu seqQ blkQ rndQ cutQ retQ Does Enters IntKind.wrap bits sb World.alloc World.putObj Blk
attribute [local irreducible] Rn Tk rnQ
set_option maxHeartbeats 2000000 in
theorem c_write (back : Bool) (cl m bl br bs bk p : Nat) (l r : Id) (F : Nat → Prop) (t : Fo) (A : World) (hm : m ≤ 9) (hs : t.sz ≤ 1000) (hW : WS t cl l r) (hl : Blk A bl (idcs l) 32) (hr : Blk A br (idcs r) 32) (hbs : Blk A bs [.pointer (some ⟨p, 0, none⟩)] 27) (hbk : Blk A bk [.bool back] 4)
    (hns : ¬ F bs) (hnk : ¬ F bk) (h : SqAt A p F t) :
    Does Try.prog 24 #[.int .u64 (cl : Int), .int .i64 (m : Int), .pointer (some ⟨bl, 0, none⟩), .pointer (some ⟨br, 0, none⟩), .pointer (some ⟨bs, 0, none⟩), .pointer (some ⟨bk, 0, none⟩)] A fun v A' => v = .bool true ∧ ∃ F', SqAt A' p F' (wt back cl l r t m) ∧ Turn F F' A A' := by
  refine Does_of (args := [.int .u64 (cl : Int), .int .i64 (m : Int), .pointer (some ⟨bl, 0, none⟩), .pointer (some ⟨br, 0, none⟩), .pointer (some ⟨bs, 0, none⟩), .pointer (some ⟨bk, 0, none⟩)]) Try.func24 (by kernel_rfl) rfl rfl rfl rfl rfl ?_
  have ltl := hl.lt
  have ltr := hr.lt
  have lts := hbs.lt
  have ltk := hbk.lt
  unfold idcs at hl hr
  apply W_seq
  refine W_cut2 (α := Nat × Nat) (fun y => [(0, .int .u64 (cl : Int)), (1, .int .i64 (m : Int)), (4, .pointer (some ⟨bs, 0, none⟩)), (5, .pointer (some ⟨bk, 0, none⟩)), (9, .pointer (some ⟨y.1, 0, none⟩)), (10, .pointer (some ⟨y.2, 0, none⟩))]) (fun y Z => Below A.heap.size A Z ∧ A.heap.size ≤ y.1 ∧ A.heap.size ≤ y.2 ∧ y.1 ≠ y.2 ∧ Blk Z y.1 (idcs l) 32 ∧ Blk Z y.2 (idcs r) 32) ?_ ?_
  · (refine Ga ?_)
    refine W_drawS 6 (fun Z => Grown A Z) rfl rfl ?_
    refine S_takeV 0 5 rfl (by kernel_rfl) (by repeat (first | exact retQ_p | apply seqQ_p | apply blkQ_p | apply rndQ_p | apply cutQ_p)) (grown_start A) ?_
    (refine Qb ?_)
    refine S_takeV 1 4 rfl (by kernel_rfl) (by repeat (first | exact retQ_p | apply seqQ_p | apply blkQ_p | apply rndQ_p | apply cutQ_p)) (grown_start A) ?_
    (refine Qb ?_)
    refine S_any [2, 3] 3 rfl (by kernel_rfl) (all2 ?_ ?_)
    · (refine Ga ?_)
      apply rnQ_n
      refine ⟨Bel, ?_⟩
      refine S_any [3] 2 rfl (by kernel_rfl) (all1 ?_)
      (refine Ga ?_)
      apply rnQ_n
      refine ⟨Bel, ?_⟩
      refine S_any [4] 1 rfl (by kernel_rfl) (all1 ?_)
      (refine Ga ?_)
      apply rnQ_n
      refine ⟨Bel, ?_⟩
      refine S_any [5] 0 rfl (by kernel_rfl) (all1 ?_)
      (refine Ga ?_)
      apply rnQ_n
      refine ⟨Bel, ?_⟩
      refine S_done (by kernel_rfl) ?_
      refine cutQ_n (α := Nat × Nat) (A.heap.size, A.heap.size + 1) ⟨Bel, by dsimp only; omega, by dsimp only; omega, by dsimp only; omega, (by (repeat (first | assumption | (apply Blk.below (hb := hb1); rotate_left; (focus ((try simp only [Sx.sizes]); omega)); rotate_right) | (apply Blk.below (hb := hb2); rotate_left; (focus ((try simp only [Sx.sizes]); omega)); rotate_right) | (apply Blk.below (hb := hb3); rotate_left; (focus ((try simp only [Sx.sizes]); omega)); rotate_right) | (apply Blk.below (hb := hb4); rotate_left; (focus ((try simp only [Sx.sizes]); omega)); rotate_right) | (apply Blk.below (hb := hb5); rotate_left; (focus ((try simp only [Sx.sizes]); omega)); rotate_right) | (apply Blk.below (hb := hb6); rotate_left; (focus ((try simp only [Sx.sizes]); omega)); rotate_right) | (apply Blk.below (hb := hb7); rotate_left; (focus ((try simp only [Sx.sizes]); omega)); rotate_right) | (apply Blk.below (hb := hb8); rotate_left; (focus ((try simp only [Sx.sizes]); omega)); rotate_right) | (apply Blk.below (hb := hb9); rotate_left; (focus ((try simp only [Sx.sizes]); omega)); rotate_right) | exact Blk.newE (by first | rfl | ((try simp only [Sx.sizes]); first | done | omega)) _ _ | exact Blk.put_same (by (try simp only [Sx.sizes]); first | done | omega) _ _ | (apply Blk.put_ne; (focus omega)) | apply Blk.alloc | apply Blk.drew)); done), (by (repeat (first | assumption | (apply Blk.below (hb := hb1); rotate_left; (focus ((try simp only [Sx.sizes]); omega)); rotate_right) | (apply Blk.below (hb := hb2); rotate_left; (focus ((try simp only [Sx.sizes]); omega)); rotate_right) | (apply Blk.below (hb := hb3); rotate_left; (focus ((try simp only [Sx.sizes]); omega)); rotate_right) | (apply Blk.below (hb := hb4); rotate_left; (focus ((try simp only [Sx.sizes]); omega)); rotate_right) | (apply Blk.below (hb := hb5); rotate_left; (focus ((try simp only [Sx.sizes]); omega)); rotate_right) | (apply Blk.below (hb := hb6); rotate_left; (focus ((try simp only [Sx.sizes]); omega)); rotate_right) | (apply Blk.below (hb := hb7); rotate_left; (focus ((try simp only [Sx.sizes]); omega)); rotate_right) | (apply Blk.below (hb := hb8); rotate_left; (focus ((try simp only [Sx.sizes]); omega)); rotate_right) | (apply Blk.below (hb := hb9); rotate_left; (focus ((try simp only [Sx.sizes]); omega)); rotate_right) | exact Blk.newE (by first | rfl | ((try simp only [Sx.sizes]); first | done | omega)) _ _ | exact Blk.put_same (by (try simp only [Sx.sizes]); first | done | omega) _ _ | (apply Blk.put_ne; (focus omega)) | apply Blk.alloc | apply Blk.drew)); done)⟩ ⟨rfl, rfl, rfl, rfl, rfl, rfl, trivial⟩
    · (refine Ga ?_)
      apply rnQ_n
      refine ⟨Bel, ?_⟩
      refine S_any [2] 2 rfl (by kernel_rfl) (all1 ?_)
      (refine Ga ?_)
      apply rnQ_n
      refine ⟨Bel, ?_⟩
      refine S_any [4] 1 rfl (by kernel_rfl) (all1 ?_)
      (refine Ga ?_)
      apply rnQ_n
      refine ⟨Bel, ?_⟩
      refine S_any [5] 0 rfl (by kernel_rfl) (all1 ?_)
      (refine Ga ?_)
      apply rnQ_n
      refine ⟨Bel, ?_⟩
      refine S_done (by kernel_rfl) ?_
      refine cutQ_n (α := Nat × Nat) (A.heap.size + 1, A.heap.size) ⟨Bel, by dsimp only; omega, by dsimp only; omega, by dsimp only; omega, (by (repeat (first | assumption | (apply Blk.below (hb := hb1); rotate_left; (focus ((try simp only [Sx.sizes]); omega)); rotate_right) | (apply Blk.below (hb := hb2); rotate_left; (focus ((try simp only [Sx.sizes]); omega)); rotate_right) | (apply Blk.below (hb := hb3); rotate_left; (focus ((try simp only [Sx.sizes]); omega)); rotate_right) | (apply Blk.below (hb := hb4); rotate_left; (focus ((try simp only [Sx.sizes]); omega)); rotate_right) | (apply Blk.below (hb := hb5); rotate_left; (focus ((try simp only [Sx.sizes]); omega)); rotate_right) | (apply Blk.below (hb := hb6); rotate_left; (focus ((try simp only [Sx.sizes]); omega)); rotate_right) | (apply Blk.below (hb := hb7); rotate_left; (focus ((try simp only [Sx.sizes]); omega)); rotate_right) | (apply Blk.below (hb := hb8); rotate_left; (focus ((try simp only [Sx.sizes]); omega)); rotate_right) | (apply Blk.below (hb := hb9); rotate_left; (focus ((try simp only [Sx.sizes]); omega)); rotate_right) | exact Blk.newE (by first | rfl | ((try simp only [Sx.sizes]); first | done | omega)) _ _ | exact Blk.put_same (by (try simp only [Sx.sizes]); first | done | omega) _ _ | (apply Blk.put_ne; (focus omega)) | apply Blk.alloc | apply Blk.drew)); done), (by (repeat (first | assumption | (apply Blk.below (hb := hb1); rotate_left; (focus ((try simp only [Sx.sizes]); omega)); rotate_right) | (apply Blk.below (hb := hb2); rotate_left; (focus ((try simp only [Sx.sizes]); omega)); rotate_right) | (apply Blk.below (hb := hb3); rotate_left; (focus ((try simp only [Sx.sizes]); omega)); rotate_right) | (apply Blk.below (hb := hb4); rotate_left; (focus ((try simp only [Sx.sizes]); omega)); rotate_right) | (apply Blk.below (hb := hb5); rotate_left; (focus ((try simp only [Sx.sizes]); omega)); rotate_right) | (apply Blk.below (hb := hb6); rotate_left; (focus ((try simp only [Sx.sizes]); omega)); rotate_right) | (apply Blk.below (hb := hb7); rotate_left; (focus ((try simp only [Sx.sizes]); omega)); rotate_right) | (apply Blk.below (hb := hb8); rotate_left; (focus ((try simp only [Sx.sizes]); omega)); rotate_right) | (apply Blk.below (hb := hb9); rotate_left; (focus ((try simp only [Sx.sizes]); omega)); rotate_right) | exact Blk.newE (by first | rfl | ((try simp only [Sx.sizes]); first | done | omega)) _ _ | exact Blk.put_same (by (try simp only [Sx.sizes]); first | done | omega) _ _ | (apply Blk.put_ne; (focus omega)) | apply Blk.alloc | apply Blk.drew)); done)⟩ ⟨rfl, rfl, rfl, rfl, rfl, rfl, trivial⟩
  · rintro J ⟨b9, b10⟩ Z ⟨bZ, h9, h10, hne, k9, k10⟩
    dsimp only at h9 h10 hne k9 k10 ⊢
    have hs9 : bs ≠ b9 := by omega
    have hs10 : bs ≠ b10 := by omega
    have hk9' : bk ≠ b9 := by omega
    have hk10' : bk ≠ b10 := by omega
    have hw0 : Wr A Z p F F back cl l r t bs bk b9 b10 0 := by
      refine ⟨h.below bZ, Turn.of bZ, ?_, ?_, hbs.below bZ lts, hbk.below bZ ltk, fun hf => by have := h.lt hf; omega, fun hf => by have := h.lt hf; omega, hns, hnk⟩
      · cases back <;> exact k9
      · cases back <;> exact k10
    clear k9 k10 hl hr hbs hbk ltl ltr
    (refine Ga ?_)
    refine W_loop (α := Nat × (Nat → Prop)) (fun x => [(0, .int .u64 (cl : Int)), (1, .int .i64 (m : Int)), (4, .pointer (some ⟨bs, 0, none⟩)), (5, .pointer (some ⟨bk, 0, none⟩)), (9, .pointer (some ⟨b9, 0, none⟩)), (10, .pointer (some ⟨b10, 0, none⟩)), (11, .int .i64 (x.1 : Int))])
      (fun x Y => x.1 ≤ m ∧ Wr A Y p F x.2 back cl l r t bs bk b9 b10 x.1) (fun x _ => m - x.1) (0, F) ⟨Nat.zero_le _, hw0⟩ ⟨rfl, rfl, rfl, rfl, rfl, rfl, rfl, trivial⟩ ?_
    clear hw0
    rintro J ⟨i, F1⟩ Y ⟨hi, hw⟩
    dsimp only at hi hw ⊢
    by_cases hil : i < m
    · have hwi := wi_all (back := back) hW i (by omega)
      have hM := wi_may hW (by omega) hwi
      have hszi : (wt back cl l r t i).sz = t.sz + i := by
        have : ∀ k, k ≤ i → (wt back cl l r t k).sz = t.sz + k := fun k => by
          induction k with
          | zero => intro _; rfl
          | succ k ih =>
            intro hk
            rw [wt_succ, Fo.put_sz (wi_all (back := back) hW k (by omega)).good.nd, ih (by omega)]
            omega
        exact this i (Nat.le_refl _)
      obtain ⟨u, hue⟩ : ∃ u, wr back cl l r i = u := ⟨_, rfl⟩
      have hk9 := hw.k9
      have hk10 := hw.k10
      rw [hue] at hk9 hk10
      have hid : u.id = (cl, i + 1) := by rw [← hue]; rfl
      have l9 := hk9.lt
      have l10 := hk10.lt
      unfold idcs at hk9 hk10
      (refine Ga ?_)
      refine W_cutS (α := Nat) (fun b => [(0, .int .u64 (cl : Int)), (1, .int .i64 (m : Int)), (4, .pointer (some ⟨bs, 0, none⟩)), (5, .pointer (some ⟨bk, 0, none⟩)), (9, .pointer (some ⟨b9, 0, none⟩)), (10, .pointer (some ⟨b10, 0, none⟩)), (11, .int .i64 (i : Int)), (12, .pointer (some ⟨b, 0, none⟩))]) (fun b Z' => Below Y.heap.size Y Z' ∧ Y.heap.size ≤ b ∧ Blk Z' b (ucs u) 34) ?_ ?_
      · refine W_drawS 10 (fun Z => Grown Y Z) rfl rfl ?_
        refine S_takeV 0 9 rfl (by kernel_rfl) (by repeat (first | exact retQ_p | apply seqQ_p | apply blkQ_p | apply rndQ_p | apply cutQ_p)) (grown_start Y) ?_
        (refine Qb ?_)
        refine S_takeV 1 8 rfl (by kernel_rfl) (by repeat (first | exact retQ_p | apply seqQ_p | apply blkQ_p | apply rndQ_p | apply cutQ_p)) (grown_start Y) ?_
        (refine Qb ?_)
        refine S_takeV 2 7 rfl (by kernel_rfl) (by repeat (first | exact retQ_p | apply seqQ_p | apply blkQ_p | apply rndQ_p | apply cutQ_p)) (grown_start Y) ?_
        (refine Qb ?_)
        refine S_takeV 3 6 rfl (by kernel_rfl) (by repeat (first | exact retQ_p | apply seqQ_p | apply blkQ_p | apply rndQ_p | apply cutQ_p)) (grown_start Y) ?_
        (refine Qb ?_)
        refine S_takeV 5 5 rfl (by kernel_rfl) (by repeat (first | exact retQ_p | apply seqQ_p | apply blkQ_p | apply rndQ_p | apply cutQ_p)) (grown_start Y) ?_
        (refine Qb ?_)
        refine S_takeV 6 4 rfl (by kernel_rfl) (by repeat (first | exact retQ_p | apply seqQ_p | apply blkQ_p | apply rndQ_p | apply cutQ_p)) (grown_start Y) ?_
        (refine Qb ?_)
        refine S_any [4, 8] 3 rfl (by kernel_rfl) (all2 ?_ ?_)
        · (apply Lst_call; (focus rfl); (focus rfl))
          refine (c_id cl (i + 1) Y.drew).mono ?_
          rintro v Y1 ⟨rfl, hb1⟩
          have bY1 : Grown Y Y1 := Below.after (grown_start Y) hb1
          have sY1 := bY1.size
          unfold idv idcs
          apply Lst_nil
          apply rnQ_n
          refine ⟨bY1, ?_⟩
          refine S_takeV 7 2 rfl (by kernel_rfl) (by repeat (first | exact retQ_p | apply seqQ_p | apply blkQ_p | apply rndQ_p | apply cutQ_p)) bY1 ?_
          (refine Qb ?_)
          refine S_any [8] 1 rfl (by kernel_rfl) (all1 ?_)
          (refine Ga ?_)
          apply rnQ_n
          refine ⟨Bel, ?_⟩
          refine S_any [9] 0 rfl (by kernel_rfl) (all1 ?_)
          (refine Ga ?_)
          apply rnQ_n
          refine ⟨Bel, ?_⟩
          refine S_done (by kernel_rfl) ?_
          refine cutQ_n (α := Nat) Y1.heap.size ⟨Bel, sY1, ?_⟩ ⟨rfl, rfl, rfl, rfl, rfl, rfl, rfl, rfl, trivial⟩
          unfold ucs
          rw [hid]
          exact (by (repeat (first | assumption | (apply Blk.below (hb := hb1); rotate_left; (focus ((try simp only [Sx.sizes]); omega)); rotate_right) | (apply Blk.below (hb := hb2); rotate_left; (focus ((try simp only [Sx.sizes]); omega)); rotate_right) | (apply Blk.below (hb := hb3); rotate_left; (focus ((try simp only [Sx.sizes]); omega)); rotate_right) | (apply Blk.below (hb := hb4); rotate_left; (focus ((try simp only [Sx.sizes]); omega)); rotate_right) | (apply Blk.below (hb := hb5); rotate_left; (focus ((try simp only [Sx.sizes]); omega)); rotate_right) | (apply Blk.below (hb := hb6); rotate_left; (focus ((try simp only [Sx.sizes]); omega)); rotate_right) | (apply Blk.below (hb := hb7); rotate_left; (focus ((try simp only [Sx.sizes]); omega)); rotate_right) | (apply Blk.below (hb := hb8); rotate_left; (focus ((try simp only [Sx.sizes]); omega)); rotate_right) | (apply Blk.below (hb := hb9); rotate_left; (focus ((try simp only [Sx.sizes]); omega)); rotate_right) | exact Blk.newE (by first | rfl | ((try simp only [Sx.sizes]); first | done | omega)) _ _ | exact Blk.put_same (by (try simp only [Sx.sizes]); first | done | omega) _ _ | (apply Blk.put_ne; (focus omega)) | apply Blk.alloc | apply Blk.drew)); done)
        · (refine Ga ?_)
          apply rnQ_n
          refine ⟨Bel, ?_⟩
          refine S_any [4] 2 rfl (by kernel_rfl) (all1 ?_)
          obtain ⟨Y0, hY0⟩ : ∃ Y0, Y.drew.alloc (.cells [.int .u64 0, .int .u64 0, .int .u64 0, .int .u64 0, .int .u64 0, .int .u64 0].toArray 34) = Y0 := ⟨_, rfl⟩
          have bY0 : Grown Y Y0 := by rw [← hY0]; exact Bel
          have kY0 : Blk Y0 Y.heap.size [.int .u64 0, .int .u64 0, .int .u64 0, .int .u64 0, .int .u64 0, .int .u64 0] 34 := by rw [← hY0]; exact (by (repeat (first | assumption | (apply Blk.below (hb := hb1); rotate_left; (focus ((try simp only [Sx.sizes]); omega)); rotate_right) | (apply Blk.below (hb := hb2); rotate_left; (focus ((try simp only [Sx.sizes]); omega)); rotate_right) | (apply Blk.below (hb := hb3); rotate_left; (focus ((try simp only [Sx.sizes]); omega)); rotate_right) | (apply Blk.below (hb := hb4); rotate_left; (focus ((try simp only [Sx.sizes]); omega)); rotate_right) | (apply Blk.below (hb := hb5); rotate_left; (focus ((try simp only [Sx.sizes]); omega)); rotate_right) | (apply Blk.below (hb := hb6); rotate_left; (focus ((try simp only [Sx.sizes]); omega)); rotate_right) | (apply Blk.below (hb := hb7); rotate_left; (focus ((try simp only [Sx.sizes]); omega)); rotate_right) | (apply Blk.below (hb := hb8); rotate_left; (focus ((try simp only [Sx.sizes]); omega)); rotate_right) | (apply Blk.below (hb := hb9); rotate_left; (focus ((try simp only [Sx.sizes]); omega)); rotate_right) | exact Blk.newE (by first | rfl | ((try simp only [Sx.sizes]); first | done | omega)) _ _ | exact Blk.put_same (by (try simp only [Sx.sizes]); first | done | omega) _ _ | (apply Blk.put_ne; (focus omega)) | apply Blk.alloc | apply Blk.drew)); done)
          rw [hY0]
          clear hY0
          have lY0 := kY0.lt
          (apply Lst_call; (focus rfl); (focus rfl))
          refine (c_id cl (i + 1) Y0).mono ?_
          rintro v Y1 ⟨rfl, hb1⟩
          have kY1 := kY0.below hb1 lY0
          have bY1 : Grown Y Y1 := bY0.trans (hb1.mono bY0.size)
          have lY1 := kY1.lt
          unfold idv idcs
          apply Lst_nil
          apply rnQ_n
          refine ⟨bY1, ?_⟩
          refine S_takeV 7 1 rfl (by kernel_rfl) (by repeat (first | exact retQ_p | apply seqQ_p | apply blkQ_p | apply rndQ_p | apply cutQ_p)) bY1 ?_
          (refine Qb ?_)
          refine S_any [9] 0 rfl (by kernel_rfl) (all1 ?_)
          (refine Ga ?_)
          apply rnQ_n
          refine ⟨Bel, ?_⟩
          refine S_done (by kernel_rfl) ?_
          refine cutQ_n (α := Nat) Y.heap.size ⟨Bel, Nat.le_refl _, ?_⟩ ⟨rfl, rfl, rfl, rfl, rfl, rfl, rfl, rfl, trivial⟩
          unfold ucs
          rw [hid]
          exact (by (repeat (first | assumption | (apply Blk.below (hb := hb1); rotate_left; (focus ((try simp only [Sx.sizes]); omega)); rotate_right) | (apply Blk.below (hb := hb2); rotate_left; (focus ((try simp only [Sx.sizes]); omega)); rotate_right) | (apply Blk.below (hb := hb3); rotate_left; (focus ((try simp only [Sx.sizes]); omega)); rotate_right) | (apply Blk.below (hb := hb4); rotate_left; (focus ((try simp only [Sx.sizes]); omega)); rotate_right) | (apply Blk.below (hb := hb5); rotate_left; (focus ((try simp only [Sx.sizes]); omega)); rotate_right) | (apply Blk.below (hb := hb6); rotate_left; (focus ((try simp only [Sx.sizes]); omega)); rotate_right) | (apply Blk.below (hb := hb7); rotate_left; (focus ((try simp only [Sx.sizes]); omega)); rotate_right) | (apply Blk.below (hb := hb8); rotate_left; (focus ((try simp only [Sx.sizes]); omega)); rotate_right) | (apply Blk.below (hb := hb9); rotate_left; (focus ((try simp only [Sx.sizes]); omega)); rotate_right) | exact Blk.newE (by first | rfl | ((try simp only [Sx.sizes]); first | done | omega)) _ _ | exact Blk.put_same (by (try simp only [Sx.sizes]); first | done | omega) _ _ | (apply Blk.put_ne; (focus omega)) | apply Blk.alloc | apply Blk.drew)); done)
      · rintro J b Z' ⟨bZ', hbY, kU⟩
        have hSZ := hw.sq.below bZ'
        have k9 := hw.k9.below bZ' l9
        have k10 := hw.k10.below bZ' l10
        have ks := hw.ks.below bZ' hw.ks.lt
        have kk := hw.kk.below bZ' hw.kk.lt
        have lks := ks.lt
        have lkk := kk.lt
        have lkU := kU.lt
        have hnU : ¬ F1 b := fun hf => by have := hw.sq.lt hf; omega
        have hA9 : A.heap.size ≤ Y.heap.size := hw.turn.size
        have kU' := kU
        unfold ucs at kU'
        (refine Ga ?_)
        (apply Lst_call; (focus rfl); (focus rfl))
        refine (c_Insert u p F1 _ Z' (by omega) hSZ).mono ?_
        rintro v D ⟨rfl, F2, hSD, hTD⟩
        have hmay : Fo.may (wt back cl l r t i) u = true := by rw [← hue]; exact Fo.may_iff.2 hM
        have hins : (Fo.insert (wt back cl l r t i) u).1 = wt back cl l r t (i + 1) := by
          unfold Fo.insert
          rw [hmay, wt_succ, hue]
          rfl
        rw [hins] at hSD
        rw [hmay]
        have kUD := hTD.blk kU hnU
        have k9D := hTD.blk k9 hw.n9
        have k10D := hTD.blk k10 hw.n10
        have ksD := hTD.blk ks hw.ns
        have kkD := hTD.blk kk hw.nk
        have no : ∀ g, g < Z'.heap.size → ¬ F1 g → ¬ F2 g := fun g hg hn hf => hn ((hTD.own g hg).1 hf)
        have n9 := no b9 k9.lt hw.n9
        have n10 := no b10 k10.lt hw.n10
        have ns := no bs lks hw.ns
        have nk := no bk lkk hw.nk
        have hT2 : Turn F F2 A D := (hw.turn.trans (Turn.of bZ')).trans hTD
        have lUD := kUD.lt
        have lkD := kkD.lt
        have l9D := k9D.lt
        have l10D := k10D.lt
        unfold ucs at kUD
        rw [hue] at k9D k10D
        cases back with
        | true =>
          have e9 : (wr true cl l r (i + 1)).l = u.l := by rw [← hue]; rfl
          have e10 : (wr true cl l r (i + 1)).r = u.id := by
            rw [hid]
            show (if i + 1 = 0 then r else (cl, i + 1)) = _
            rw [if_neg (Nat.succ_ne_zero i)]
          unfold idcs at k9D k10D
          (refine Ga ?_)
          refine rndQ_n (α := Nat × (Nat → Prop)) (i + 1, F2) ⟨hil, hSD.put' n10 _, hT2.put h10 _, ?_, ?_, ?_, ?_, n9, n10, ns, nk⟩ ⟨rfl, rfl, rfl, rfl, rfl, rfl, ?_, trivial⟩ (by dsimp only; omega)
          · dsimp only
            rw [e9]
            exact Blk.put_ne hne k9D
          · dsimp only
            rw [e10]
            exact (by (repeat (first | assumption | (apply Blk.below (hb := hb1); rotate_left; (focus ((try simp only [Sx.sizes]); omega)); rotate_right) | (apply Blk.below (hb := hb2); rotate_left; (focus ((try simp only [Sx.sizes]); omega)); rotate_right) | (apply Blk.below (hb := hb3); rotate_left; (focus ((try simp only [Sx.sizes]); omega)); rotate_right) | (apply Blk.below (hb := hb4); rotate_left; (focus ((try simp only [Sx.sizes]); omega)); rotate_right) | (apply Blk.below (hb := hb5); rotate_left; (focus ((try simp only [Sx.sizes]); omega)); rotate_right) | (apply Blk.below (hb := hb6); rotate_left; (focus ((try simp only [Sx.sizes]); omega)); rotate_right) | (apply Blk.below (hb := hb7); rotate_left; (focus ((try simp only [Sx.sizes]); omega)); rotate_right) | (apply Blk.below (hb := hb8); rotate_left; (focus ((try simp only [Sx.sizes]); omega)); rotate_right) | (apply Blk.below (hb := hb9); rotate_left; (focus ((try simp only [Sx.sizes]); omega)); rotate_right) | exact Blk.newE (by first | rfl | ((try simp only [Sx.sizes]); first | done | omega)) _ _ | exact Blk.put_same (by (try simp only [Sx.sizes]); first | done | omega) _ _ | (apply Blk.put_ne; (focus omega)) | apply Blk.alloc | apply Blk.drew)); done)
          · exact Blk.put_ne hs10 ksD
          · exact Blk.put_ne hk10' kkD
          · exact congrArg (Value.int .i64) (by dsimp only; omega)
        | false =>
          have e10 : (wr false cl l r (i + 1)).r = u.r := by rw [← hue]; rfl
          have e9 : (wr false cl l r (i + 1)).l = u.id := by
            rw [hid]
            show (if i + 1 = 0 then l else (cl, i + 1)) = _
            rw [if_neg (Nat.succ_ne_zero i)]
          unfold idcs at k9D k10D
          (refine Ga ?_)
          refine rndQ_n (α := Nat × (Nat → Prop)) (i + 1, F2) ⟨hil, hSD.put' n9 _, hT2.put h9 _, ?_, ?_, ?_, ?_, n9, n10, ns, nk⟩ ⟨rfl, rfl, rfl, rfl, rfl, rfl, ?_, trivial⟩ (by dsimp only; omega)
          · dsimp only
            rw [e9]
            exact (by (repeat (first | assumption | (apply Blk.below (hb := hb1); rotate_left; (focus ((try simp only [Sx.sizes]); omega)); rotate_right) | (apply Blk.below (hb := hb2); rotate_left; (focus ((try simp only [Sx.sizes]); omega)); rotate_right) | (apply Blk.below (hb := hb3); rotate_left; (focus ((try simp only [Sx.sizes]); omega)); rotate_right) | (apply Blk.below (hb := hb4); rotate_left; (focus ((try simp only [Sx.sizes]); omega)); rotate_right) | (apply Blk.below (hb := hb5); rotate_left; (focus ((try simp only [Sx.sizes]); omega)); rotate_right) | (apply Blk.below (hb := hb6); rotate_left; (focus ((try simp only [Sx.sizes]); omega)); rotate_right) | (apply Blk.below (hb := hb7); rotate_left; (focus ((try simp only [Sx.sizes]); omega)); rotate_right) | (apply Blk.below (hb := hb8); rotate_left; (focus ((try simp only [Sx.sizes]); omega)); rotate_right) | (apply Blk.below (hb := hb9); rotate_left; (focus ((try simp only [Sx.sizes]); omega)); rotate_right) | exact Blk.newE (by first | rfl | ((try simp only [Sx.sizes]); first | done | omega)) _ _ | exact Blk.put_same (by (try simp only [Sx.sizes]); first | done | omega) _ _ | (apply Blk.put_ne; (focus omega)) | apply Blk.alloc | apply Blk.drew)); done)
          · dsimp only
            rw [e10]
            exact Blk.put_ne (Ne.symm hne) k10D
          · exact Blk.put_ne hs9 ksD
          · exact Blk.put_ne hk9' kkD
          · exact congrArg (Value.int .i64) (by dsimp only; omega)
    · obtain rfl : i = m := by omega
      (refine Ga ?_)
      (apply retQ1; (focus rfl))
      exact ⟨rfl, F1, hw.sq, hw.turn⟩
end
end Sq
end Go.Proofs.Ytmammcgdjjldbaa
