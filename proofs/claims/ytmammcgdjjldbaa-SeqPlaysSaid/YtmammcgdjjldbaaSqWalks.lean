/- SeqWalks' walk. -/
import Derived.Test.YtmammcgdjjldbaaSqAll
import Derived.Test.YtmammcgdjjldbaaSqBetween
namespace Go.Proofs.Ytmammcgdjjldbaa
set_option maxRecDepth 100000
namespace Sq
open Go Go.RowKit Sx Tl
/-- What a going through has done. -/
structure Wk (b p n : Nat) (w0 Z : World) (k : Nat) (A : World) : Prop where
  b2 : Blk A b [.pointer (some ⟨p, 0, none⟩)] 27
  b3 : Blk A (b + 1) [.int .i64 (n : Int)] 3
  b4 : Blk A (b + 2) [.bool false] 4
  b5 : Blk A (b + 3) [.int .i64 (k : Int)] 3
  bel : Below w0.heap.size w0 A
  size : Z.heap.size ≤ A.heap.size
theorem Wk.calm {b p n : Nat} {w0 Z A A' : World} {k : Nat} (h : Wk b p n w0 Z k A) (hc : Sx.Calm Z.heap.size A A') (hs : w0.heap.size ≤ Z.heap.size) : Wk b p n w0 Z k A' :=
  ⟨hc.blk h.b2, hc.blk h.b3, hc.blk h.b4, hc.blk h.b5, below_calm h.bel hc hs, Nat.le_trans h.size hc.size⟩
theorem cell_turn {F F' : Nat → Prop} {w w' : World} {b o : Nat} {v : Value} (hT : Turn F F' w w') (hn : ¬ F b) (h : w.cell? ⟨b, o, none⟩ = some v) : w'.cell? ⟨b, o, none⟩ = some v := by
  rw [World.cell?_of_block (hT.block b (cell_lt h) hn)]
  exact h
variable {w : World} {p : Nat} {F : Nat → Prop} {t : Fo}
attribute [local irreducible] W Lst Qst Pu seqQ blkQ rndQ cutQ retQ Does Enters IntKind.wrap bits sb World.alloc World.putObj Blk
set_option maxHeartbeats 2000000 in
theorem c_walks (n : Nat) (hn : n ≤ t.sz) (h : SqAt w p F t) (hlen : t.sz ≤ 1000000000) : Does Try.prog 25 #[.pointer (some ⟨p, 0, none⟩), .int .i64 (n : Int)] w fun v w' => v = .bool true ∧ Below w.heap.size w w' := by
  refine Does_of_marks (args := [.pointer (some ⟨p, 0, none⟩), .int .i64 (n : Int)]) Try.func25 (by kernel_rfl) rfl rfl rfl rfl rfl ?_
  have hb0 : Below w.heap.size w (((((w.alloc (.cells [.pointer (some ⟨p, 0, none⟩)].toArray 27)).alloc (.cells [.int .i64 (n : Int)].toArray 3)).alloc (.cells [.bool false].toArray 4)).alloc (.cells [.int .i64 0].toArray 3)).putObj (w.heap.size + 3) (.cells [.int .i64 0].toArray 3)) := Bel
  have k2 : Blk (((((w.alloc (.cells [.pointer (some ⟨p, 0, none⟩)].toArray 27)).alloc (.cells [.int .i64 (n : Int)].toArray 3)).alloc (.cells [.bool false].toArray 4)).alloc (.cells [.int .i64 0].toArray 3)).putObj (w.heap.size + 3) (.cells [.int .i64 0].toArray 3)) w.heap.size [.pointer (some ⟨p, 0, none⟩)] 27 := (by (repeat (first | assumption | (apply Blk.below (hb := hb1); rotate_left; (focus ((try simp only [Sx.sizes]); omega)); rotate_right) | (apply Blk.below (hb := hb2); rotate_left; (focus ((try simp only [Sx.sizes]); omega)); rotate_right) | (apply Blk.below (hb := hb3); rotate_left; (focus ((try simp only [Sx.sizes]); omega)); rotate_right) | (apply Blk.below (hb := hb4); rotate_left; (focus ((try simp only [Sx.sizes]); omega)); rotate_right) | (apply Blk.below (hb := hb5); rotate_left; (focus ((try simp only [Sx.sizes]); omega)); rotate_right) | (apply Blk.below (hb := hb6); rotate_left; (focus ((try simp only [Sx.sizes]); omega)); rotate_right) | (apply Blk.below (hb := hb7); rotate_left; (focus ((try simp only [Sx.sizes]); omega)); rotate_right) | (apply Blk.below (hb := hb8); rotate_left; (focus ((try simp only [Sx.sizes]); omega)); rotate_right) | (apply Blk.below (hb := hb9); rotate_left; (focus ((try simp only [Sx.sizes]); omega)); rotate_right) | exact Blk.newE (by first | rfl | ((try simp only [Sx.sizes]); first | done | omega)) _ _ | exact Blk.put_same (by (try simp only [Sx.sizes]); first | done | omega) _ _ | (apply Blk.put_ne; (focus omega)) | apply Blk.alloc | apply Blk.drew)); done)
  have k3 : Blk (((((w.alloc (.cells [.pointer (some ⟨p, 0, none⟩)].toArray 27)).alloc (.cells [.int .i64 (n : Int)].toArray 3)).alloc (.cells [.bool false].toArray 4)).alloc (.cells [.int .i64 0].toArray 3)).putObj (w.heap.size + 3) (.cells [.int .i64 0].toArray 3)) (w.heap.size + 1) [.int .i64 (n : Int)] 3 := (by (repeat (first | assumption | (apply Blk.below (hb := hb1); rotate_left; (focus ((try simp only [Sx.sizes]); omega)); rotate_right) | (apply Blk.below (hb := hb2); rotate_left; (focus ((try simp only [Sx.sizes]); omega)); rotate_right) | (apply Blk.below (hb := hb3); rotate_left; (focus ((try simp only [Sx.sizes]); omega)); rotate_right) | (apply Blk.below (hb := hb4); rotate_left; (focus ((try simp only [Sx.sizes]); omega)); rotate_right) | (apply Blk.below (hb := hb5); rotate_left; (focus ((try simp only [Sx.sizes]); omega)); rotate_right) | (apply Blk.below (hb := hb6); rotate_left; (focus ((try simp only [Sx.sizes]); omega)); rotate_right) | (apply Blk.below (hb := hb7); rotate_left; (focus ((try simp only [Sx.sizes]); omega)); rotate_right) | (apply Blk.below (hb := hb8); rotate_left; (focus ((try simp only [Sx.sizes]); omega)); rotate_right) | (apply Blk.below (hb := hb9); rotate_left; (focus ((try simp only [Sx.sizes]); omega)); rotate_right) | exact Blk.newE (by first | rfl | ((try simp only [Sx.sizes]); first | done | omega)) _ _ | exact Blk.put_same (by (try simp only [Sx.sizes]); first | done | omega) _ _ | (apply Blk.put_ne; (focus omega)) | apply Blk.alloc | apply Blk.drew)); done)
  have k4 : Blk (((((w.alloc (.cells [.pointer (some ⟨p, 0, none⟩)].toArray 27)).alloc (.cells [.int .i64 (n : Int)].toArray 3)).alloc (.cells [.bool false].toArray 4)).alloc (.cells [.int .i64 0].toArray 3)).putObj (w.heap.size + 3) (.cells [.int .i64 0].toArray 3)) (w.heap.size + 2) [.bool false] 4 := (by (repeat (first | assumption | (apply Blk.below (hb := hb1); rotate_left; (focus ((try simp only [Sx.sizes]); omega)); rotate_right) | (apply Blk.below (hb := hb2); rotate_left; (focus ((try simp only [Sx.sizes]); omega)); rotate_right) | (apply Blk.below (hb := hb3); rotate_left; (focus ((try simp only [Sx.sizes]); omega)); rotate_right) | (apply Blk.below (hb := hb4); rotate_left; (focus ((try simp only [Sx.sizes]); omega)); rotate_right) | (apply Blk.below (hb := hb5); rotate_left; (focus ((try simp only [Sx.sizes]); omega)); rotate_right) | (apply Blk.below (hb := hb6); rotate_left; (focus ((try simp only [Sx.sizes]); omega)); rotate_right) | (apply Blk.below (hb := hb7); rotate_left; (focus ((try simp only [Sx.sizes]); omega)); rotate_right) | (apply Blk.below (hb := hb8); rotate_left; (focus ((try simp only [Sx.sizes]); omega)); rotate_right) | (apply Blk.below (hb := hb9); rotate_left; (focus ((try simp only [Sx.sizes]); omega)); rotate_right) | exact Blk.newE (by first | rfl | ((try simp only [Sx.sizes]); first | done | omega)) _ _ | exact Blk.put_same (by (try simp only [Sx.sizes]); first | done | omega) _ _ | (apply Blk.put_ne; (focus omega)) | apply Blk.alloc | apply Blk.drew)); done)
  have k5 : Blk (((((w.alloc (.cells [.pointer (some ⟨p, 0, none⟩)].toArray 27)).alloc (.cells [.int .i64 (n : Int)].toArray 3)).alloc (.cells [.bool false].toArray 4)).alloc (.cells [.int .i64 0].toArray 3)).putObj (w.heap.size + 3) (.cells [.int .i64 0].toArray 3)) (w.heap.size + 3) [.int .i64 0] 3 := (by (repeat (first | assumption | (apply Blk.below (hb := hb1); rotate_left; (focus ((try simp only [Sx.sizes]); omega)); rotate_right) | (apply Blk.below (hb := hb2); rotate_left; (focus ((try simp only [Sx.sizes]); omega)); rotate_right) | (apply Blk.below (hb := hb3); rotate_left; (focus ((try simp only [Sx.sizes]); omega)); rotate_right) | (apply Blk.below (hb := hb4); rotate_left; (focus ((try simp only [Sx.sizes]); omega)); rotate_right) | (apply Blk.below (hb := hb5); rotate_left; (focus ((try simp only [Sx.sizes]); omega)); rotate_right) | (apply Blk.below (hb := hb6); rotate_left; (focus ((try simp only [Sx.sizes]); omega)); rotate_right) | (apply Blk.below (hb := hb7); rotate_left; (focus ((try simp only [Sx.sizes]); omega)); rotate_right) | (apply Blk.below (hb := hb8); rotate_left; (focus ((try simp only [Sx.sizes]); omega)); rotate_right) | (apply Blk.below (hb := hb9); rotate_left; (focus ((try simp only [Sx.sizes]); omega)); rotate_right) | exact Blk.newE (by first | rfl | ((try simp only [Sx.sizes]); first | done | omega)) _ _ | exact Blk.put_same (by (try simp only [Sx.sizes]); first | done | omega) _ _ | (apply Blk.put_ne; (focus omega)) | apply Blk.alloc | apply Blk.drew)); done)
  (refine Ga ?_)
  rw [show w.heap.size + 1 + 1 + 1 = w.heap.size + 3 from rfl, show w.heap.size + 1 + 1 = w.heap.size + 2 from rfl]
  generalize ((((w.alloc (.cells [.pointer (some ⟨p, 0, none⟩)].toArray 27)).alloc (.cells [.int .i64 (n : Int)].toArray 3)).alloc (.cells [.bool false].toArray 4)).alloc (.cells [.int .i64 0].toArray 3)).putObj (w.heap.size + 3) (.cells [.int .i64 0].toArray 3) = w1 at *
  have l5 := k5.lt
  (apply Lst_call; (focus rfl); (focus rfl))
  refine (c_All p w1 _ rfl).mono ?_
  rintro v Z ⟨rfl, rfl⟩
  have hbZ : Below w1.heap.size w1 (w1.alloc (.cells [.pointer (some ⟨p, 0, none⟩)].toArray 27)) := Bel
  have kB : Blk (w1.alloc (.cells [.pointer (some ⟨p, 0, none⟩)].toArray 27)) w1.heap.size [.pointer (some ⟨p, 0, none⟩)] 27 := (by (repeat (first | assumption | (apply Blk.below (hb := hb1); rotate_left; (focus ((try simp only [Sx.sizes]); omega)); rotate_right) | (apply Blk.below (hb := hb2); rotate_left; (focus ((try simp only [Sx.sizes]); omega)); rotate_right) | (apply Blk.below (hb := hb3); rotate_left; (focus ((try simp only [Sx.sizes]); omega)); rotate_right) | (apply Blk.below (hb := hb4); rotate_left; (focus ((try simp only [Sx.sizes]); omega)); rotate_right) | (apply Blk.below (hb := hb5); rotate_left; (focus ((try simp only [Sx.sizes]); omega)); rotate_right) | (apply Blk.below (hb := hb6); rotate_left; (focus ((try simp only [Sx.sizes]); omega)); rotate_right) | (apply Blk.below (hb := hb7); rotate_left; (focus ((try simp only [Sx.sizes]); omega)); rotate_right) | (apply Blk.below (hb := hb8); rotate_left; (focus ((try simp only [Sx.sizes]); omega)); rotate_right) | (apply Blk.below (hb := hb9); rotate_left; (focus ((try simp only [Sx.sizes]); omega)); rotate_right) | exact Blk.newE (by first | rfl | ((try simp only [Sx.sizes]); first | done | omega)) _ _ | exact Blk.put_same (by (try simp only [Sx.sizes]); first | done | omega) _ _ | (apply Blk.put_ne; (focus omega)) | apply Blk.alloc | apply Blk.drew)); done)
  have hW : Wk w.heap.size p n w (w1.alloc (.cells [.pointer (some ⟨p, 0, none⟩)].toArray 27)) 0 (w1.alloc (.cells [.pointer (some ⟨p, 0, none⟩)].toArray 27)) :=
    ⟨k2.below hbZ (by omega), k3.below hbZ (by omega), k4.below hbZ (by omega), k5.below hbZ l5, hb0.trans (hbZ.mono hb0.size), Nat.le_refl _⟩
  have hZ := (h.below hb0).below hbZ
  have sZ : w1.heap.size < (w1.alloc (.cells [.pointer (some ⟨p, 0, none⟩)].toArray 27)).heap.size := kB.lt
  have hsw := hb0.size
  (refine Ga ?_)
  generalize w1.alloc (.cells [.pointer (some ⟨p, 0, none⟩)].toArray 27) = Z at *
  have hFb : ∀ q, (F q ∨ q = w1.heap.size) → q ≠ w.heap.size + 3 := fun q hq => by
    rcases hq with hq | rfl
    · have := h.lt hq
      omega
    · omega
  have hwZ : w.heap.size ≤ Z.heap.size := by omega
  clear k2 k3 k4 k5 hbZ
  refine W_rangeA t.sz (encT t) (KeepX (fun g => F g ∨ g = w1.heap.size)) rfl e_All rfl (fun _ => rfl) (g_AllS w1.heap.size kB hZ hlen) KeepX.trans (fun A l r r' hl h => KeepX.put A l r r' hl h)
    (fun k A => k ≤ n ∧ Wk w.heap.size p n w Z k A) (fun c k A => c = .exit 0 ∧ k = n + 1 ∧ Wk w.heap.size p n w Z k A) (fun _ A A' h hc => ⟨h.1, h.2.calm hc hwZ⟩) (fun _ _ A A' h hc => ⟨h.1, h.2.1, h.2.2.calm hc hwZ⟩) ⟨Nat.zero_le _, hW⟩
    (fun q x => [(2, .pointer (some ⟨w.heap.size, 0, none⟩)), (3, .pointer (some ⟨w.heap.size + 1, 0, none⟩)), (4, .pointer (some ⟨w.heap.size + 2, 0, none⟩)), (5, .pointer (some ⟨w.heap.size + 3, 0, none⟩)), (6, .int .i64 (q : Int)), (7, .pointer (some ⟨x, 0, none⟩))]) (fun q x A => (q ≤ n ∧ Wk w.heap.size p n w Z q A) ∧ Blk A x (ucs (t.flat.getD q default)) 34)
    (fun _ _ A A' h hc => ⟨⟨h.1.1, h.1.2.calm hc hwZ⟩, hc.blk h.2⟩) ?_ ?_ ?_ ?_
  · intro l q A hq hR
    unfold encT
    (refine Ga ?_)
    have hbA : Below A.heap.size A ((A.alloc (.cells [.int .u64 0, .int .u64 0, .int .u64 0, .int .u64 0, .int .u64 0, .int .u64 0].toArray 34)).putObj A.heap.size (.cells (ucs (t.flat.getD q default)).toArray 34)) := Bel
    have kN : Blk ((A.alloc (.cells [.int .u64 0, .int .u64 0, .int .u64 0, .int .u64 0, .int .u64 0, .int .u64 0].toArray 34)).putObj A.heap.size (.cells (ucs (t.flat.getD q default)).toArray 34)) A.heap.size (ucs (t.flat.getD q default)) 34 := (by (repeat (first | assumption | (apply Blk.below (hb := hb1); rotate_left; (focus ((try simp only [Sx.sizes]); omega)); rotate_right) | (apply Blk.below (hb := hb2); rotate_left; (focus ((try simp only [Sx.sizes]); omega)); rotate_right) | (apply Blk.below (hb := hb3); rotate_left; (focus ((try simp only [Sx.sizes]); omega)); rotate_right) | (apply Blk.below (hb := hb4); rotate_left; (focus ((try simp only [Sx.sizes]); omega)); rotate_right) | (apply Blk.below (hb := hb5); rotate_left; (focus ((try simp only [Sx.sizes]); omega)); rotate_right) | (apply Blk.below (hb := hb6); rotate_left; (focus ((try simp only [Sx.sizes]); omega)); rotate_right) | (apply Blk.below (hb := hb7); rotate_left; (focus ((try simp only [Sx.sizes]); omega)); rotate_right) | (apply Blk.below (hb := hb8); rotate_left; (focus ((try simp only [Sx.sizes]); omega)); rotate_right) | (apply Blk.below (hb := hb9); rotate_left; (focus ((try simp only [Sx.sizes]); omega)); rotate_right) | exact Blk.newE (by first | rfl | ((try simp only [Sx.sizes]); first | done | omega)) _ _ | exact Blk.put_same (by (try simp only [Sx.sizes]); first | done | omega) _ _ | (apply Blk.put_ne; (focus omega)) | apply Blk.alloc | apply Blk.drew)); done)
    apply Lst_storeA (hb := Blk.newE rfl _ _) (vs := ucs (t.flat.getD q default)) (l' := ucs (t.flat.getD q default))
    focus rfl
    focus rfl
    focus rfl
    focus rfl
    focus exact ucs_one _
    focus (unfold ucs; repeat constructor)
    apply Lst_nil
    exact ⟨rfl, A.heap.size, ⟨rfl, rfl, rfl, rfl, rfl, rfl, trivial⟩, ⟨⟨hR.1, hR.2.calm (Sx.Below.calm hbA (Nat.le_refl _)) hwZ⟩, kN⟩, KF.of hbA, KeepX.of hbA.size fun g hg _ => hbA.block g hg⟩
  · rintro l q x J A hq ⟨⟨hqn, h2, h3, h4, h5, hbw, hsz⟩, kU⟩
    have hSA : SqAt A p F t := h.below hbw
    have l2 := h2.lt
    have l3 := h3.lt
    have l4 := h4.lt
    have l5 := h5.lt
    have lU := kU.lt
    (refine Ga ?_)
    (apply Lst_call; (focus rfl); (focus rfl))
    refine (s_At (q : Int) hSA).mono ?_
    rintro v A1 ⟨rfl, hb1⟩
    rw [if_pos (show 0 ≤ (q : Int) ∧ (q : Int) < t.sz by omega), Int.toNat_natCast]
    have h21 := h2.below hb1 l2
    have h31 := h3.below hb1 l3
    have h41 := h4.below hb1 l4
    have h51 := h5.below hb1 l5
    have kU1 := kU.below hb1 lU
    have bw1 := hbw.trans (hb1.mono hbw.size)
    have s1 := hb1.size
    generalize t.flat.getD q default = u at *
    unfold ucs at kU1 ⊢
    have key : ∀ V, Below A.heap.size A V → KeepsFrom Z.heap.size A (V.putObj (w.heap.size + 3) (.cells [.int .i64 ((q : Int) + 1)].toArray 3)) ∧ KeepX (fun g => F g ∨ g = w1.heap.size) A (V.putObj (w.heap.size + 3) (.cells [.int .i64 ((q : Int) + 1)].toArray 3)) ∧ Wk w.heap.size p n w Z (q + 1) (V.putObj (w.heap.size + 3) (.cells [.int .i64 ((q : Int) + 1)].toArray 3)) := fun V hV => by
      have k5 := h5.below hV l5
      have sV := hV.size
      refine ⟨(KF.of hV).trans (KF.put k5 _), KeepX.of (by rw [World.putObj_size]; exact sV) fun g hg hx => ?_, ⟨Blk.put_ne (by omega) (h2.below hV l2), Blk.put_ne (by omega) (h3.below hV l3), Blk.put_ne (by omega) (h4.below hV l4), Blk.put_same k5.lt _ _, Sx.Below.put (hbw.trans (hV.mono hbw.size)) (by omega) _, by rw [World.putObj_size]; omega⟩⟩
      rw [World.putObj_heap_other (hFb g hx)]
      exact hV.block g hg
    by_cases hqe : q = n
    · (refine Ga ?_)
      refine ⟨(key _ ?_).1, rfl, by omega, (key _ ?_).2.2⟩ <;> exact Bel
    · (refine Ga ?_)
      refine ⟨(key _ ?_).1, (key _ ?_).2.1, by omega, (key _ ?_).2.2⟩ <;> exact Bel
  · intro d A hd ⟨hmn, hR⟩ hA
    obtain ⟨h2, h3, h4, h5, hbw, hsz⟩ := hR
    have l2 := h2.lt
    have l3 := h3.lt
    have l4 := h4.lt
    have l5 := h5.lt
    have hSA : SqAt A p F t := h.below hbw
    have ld := lt_of_some hA
    have hd4 : w.heap.size + 2 ≠ d := by omega
    (refine Ga ?_)
    refine W_draw 7 (Grown A) rfl (by kernel_rfl) (grown_start A) ?_
    (refine Qb ?_)
    apply Qst_call (.int .i64 (t.sz : Int))
    focus rfl
    focus rfl
    focus exact fun A9 hb9 => (s_Len (hSA.below hb9)).mono fun v w' h => ⟨h.1, h.2 ▸ hb9⟩
    (refine Qb ?_)
    intro w8 hb8
    have hA8 := (hb8.block d ld).trans hA
    have h48 := h4.below hb8 l4
    have l48 := h48.lt
    have bw8 := hbw.trans (hb8.mono hbw.size)
    (refine Ga ?_)
    (apply retM1c; (focus (first | assumption | exact (World.putObj_heap_other (by omega)).trans (by assumption))); (focus rfl); (focus rfl); (focus rfl); (focus ((repeat (first | assumption | (apply Blk.below (hb := hb1); rotate_left; (focus ((try simp only [Sx.sizes]); omega)); rotate_right) | (apply Blk.below (hb := hb2); rotate_left; (focus ((try simp only [Sx.sizes]); omega)); rotate_right) | (apply Blk.below (hb := hb3); rotate_left; (focus ((try simp only [Sx.sizes]); omega)); rotate_right) | (apply Blk.below (hb := hb4); rotate_left; (focus ((try simp only [Sx.sizes]); omega)); rotate_right) | (apply Blk.below (hb := hb5); rotate_left; (focus ((try simp only [Sx.sizes]); omega)); rotate_right) | (apply Blk.below (hb := hb6); rotate_left; (focus ((try simp only [Sx.sizes]); omega)); rotate_right) | (apply Blk.below (hb := hb7); rotate_left; (focus ((try simp only [Sx.sizes]); omega)); rotate_right) | (apply Blk.below (hb := hb8); rotate_left; (focus ((try simp only [Sx.sizes]); omega)); rotate_right) | (apply Blk.below (hb := hb9); rotate_left; (focus ((try simp only [Sx.sizes]); omega)); rotate_right) | exact Blk.newE (by first | rfl | ((try simp only [Sx.sizes]); first | done | omega)) _ _ | exact Blk.put_same (by (try simp only [Sx.sizes]); first | done | omega) _ _ | (apply Blk.put_ne; (focus omega)) | apply Blk.alloc | apply Blk.drew)); done)))
    exact ⟨rfl, Sx.Below.put (Sx.Below.put bw8 (by omega) _) (by omega) _⟩
  · rintro d c k A hd hk0 hkm ⟨rfl, rfl, hR⟩ hA
    obtain ⟨h2, h3, h4, h5, hbw, hsz⟩ := hR
    have l2 := h2.lt
    have l3 := h3.lt
    have l4 := h4.lt
    have l5 := h5.lt
    have hSA : SqAt A p F t := h.below hbw
    have ld := lt_of_some hA
    have hd4 : w.heap.size + 2 ≠ d := by omega
    (refine Ga ?_)
    refine W_draw 7 (Grown A) rfl (by kernel_rfl) (grown_start A) ?_
    (refine Qb ?_)
    apply Qst_call (.int .i64 (t.sz : Int))
    focus rfl
    focus rfl
    focus exact fun A9 hb9 => (s_Len (hSA.below hb9)).mono fun v w' h => ⟨h.1, h.2 ▸ hb9⟩
    (refine Qb ?_)
    intro w8 hb8
    have hA8 := (hb8.block d ld).trans hA
    have h48 := h4.below hb8 l4
    have l48 := h48.lt
    have bw8 := hbw.trans (hb8.mono hbw.size)
    (refine Ga ?_)
    (apply retM1c; (focus (first | assumption | exact (World.putObj_heap_other (by omega)).trans (by assumption))); (focus rfl); (focus rfl); (focus rfl); (focus ((repeat (first | assumption | (apply Blk.below (hb := hb1); rotate_left; (focus ((try simp only [Sx.sizes]); omega)); rotate_right) | (apply Blk.below (hb := hb2); rotate_left; (focus ((try simp only [Sx.sizes]); omega)); rotate_right) | (apply Blk.below (hb := hb3); rotate_left; (focus ((try simp only [Sx.sizes]); omega)); rotate_right) | (apply Blk.below (hb := hb4); rotate_left; (focus ((try simp only [Sx.sizes]); omega)); rotate_right) | (apply Blk.below (hb := hb5); rotate_left; (focus ((try simp only [Sx.sizes]); omega)); rotate_right) | (apply Blk.below (hb := hb6); rotate_left; (focus ((try simp only [Sx.sizes]); omega)); rotate_right) | (apply Blk.below (hb := hb7); rotate_left; (focus ((try simp only [Sx.sizes]); omega)); rotate_right) | (apply Blk.below (hb := hb8); rotate_left; (focus ((try simp only [Sx.sizes]); omega)); rotate_right) | (apply Blk.below (hb := hb9); rotate_left; (focus ((try simp only [Sx.sizes]); omega)); rotate_right) | exact Blk.newE (by first | rfl | ((try simp only [Sx.sizes]); first | done | omega)) _ _ | exact Blk.put_same (by (try simp only [Sx.sizes]); first | done | omega) _ _ | (apply Blk.put_ne; (focus omega)) | apply Blk.alloc | apply Blk.drew)); done)))
    exact ⟨rfl, Sx.Below.put (Sx.Below.put bw8 (by omega) _) (by omega) _⟩
theorem law_SeqWalks (zs : List Int) (a : Option Addr) (c : Nat) (hz : ∀ z ∈ zs, 0 ≤ z ∧ z < 65536) (y1 : Int) (w : World) (h : Ints w .u16 (.slice a zs.length c) zs) :
    Does Try.prog 9 #[.slice a zs.length c, .int .i64 y1] w fun v w' => v = .bool true ∧ Below w.heap.size w w' := by
  refine Does_of (args := [.slice a zs.length c, .int .i64 y1]) Try.func9 (by kernel_rfl) rfl rfl rfl rfl rfl ?_
  (refine Ga ?_)
  (apply Lst_call; (focus rfl); (focus rfl))
  refine (c_known w).mono ?_
  rintro v w1 ⟨rfl, hb1⟩
  by_cases hl : zs.length ≤ 40
  · have h1 := h.below hb1 (Nat.le_refl _)
    (refine Ga ?_)
    (apply Lst_call; (focus rfl); (focus rfl))
    refine (c_New w1).mono ?_
    rintro v w2 ⟨p, F0, rfl, hS0, hlow0, hb2⟩
    have b2 := hb1.trans (hb2.mono hb1.size)
    (refine Ga ?_)
    (apply Lst_call; (focus rfl); (focus rfl))
    refine (c_grown zs a c hz (by omega) w2 (h1.below hb2 (Nat.le_refl _))).mono ?_
    rintro v w3 ⟨us, hO, hul, hok, hsm, hb3⟩
    have hS3 := hS0.below hb3
    have b3 := b2.trans (hb3.mono b2.size)
    have hFw : ∀ g, F0 g → g < w2.heap.size := fun g hg => hS0.lt hg
    obtain ⟨v1, v2, v3, rfl⟩ := own_slice hO
    have hrow := hO.rows
    obtain ⟨_, _, hform⟩ := own_form hO
    obtain ⟨hfe, _⟩ := hform
    injection hfe with e1 e2 e3
    subst e2
    have hvn : ∀ g off k, v1 = some ⟨g, off, k⟩ → ¬ F0 g ∧ g < w3.heap.size := fun g off k hv => by
      subst hv
      rcases hO.2 with ⟨e, _⟩ | ⟨g', cap, cur, e, hge, hh, _⟩
      · cases e
      · cases e
        refine ⟨fun hf => ?_, lt_of_some hh⟩
        have := hFw g hf
        omega
    (refine Ga ?_)
    refine W_loop (α := Nat × (Nat → Prop)) (fun x => [(1, .int .i64 y1), (5, .pointer (some ⟨p, 0, none⟩)), (6, .slice v1 us.length v3), (7, .int .i64 (x.1 : Int))])
      (fun x A => x.1 ≤ us.length ∧ SqAt A p x.2 (Fo.putL .nil (us.take x.1)) ∧ (∀ g, x.2 g → w1.heap.size ≤ g) ∧ Turn F0 x.2 w3 A ∧ Below w1.heap.size w1 A) (fun x _ => us.length - x.1) (0, F0) ⟨Nat.zero_le _, hS3, hlow0, Turn.refl _ _, hb2.trans (hb3.mono hb2.size)⟩ ⟨rfl, rfl, rfl, rfl, trivial⟩ ?_
    clear hS0 hS3 hlow0
    rintro J ⟨k, F⟩ A ⟨hk, hS, hlow, hTA, hbA⟩
    dsimp only at hk hS hlow hTA ⊢
    by_cases hkl : k < us.length
    · obtain ⟨g, off, rfl, hc⟩ := unit_at hrow hkl
      obtain ⟨hng, hgl⟩ := hvn g off none rfl
      have hcA : ∀ j u, (ucs us[k])[j]? = some u → A.cell? ⟨g, off + k * 6 + j, none⟩ = some u := fun j u hu => cell_turn hTA hng (hc w3 (Below.refl _ _) j u hu)
      obtain ⟨hmay, hins⟩ := take_put hkl hok
      have hsz : (Fo.putL .nil (us.take k)).sz ≤ 60 := by
        have := Fo.putL_sz Fo.Good.nil (take_ok k hok)
        rw [nil_sz, List.length_take] at this
        omega
      (refine Ga ?_)
      apply Lst_pu
      · apply P_idxm (j := k)
        focus rfl
        focus rfl
        focus rfl
        focus rfl
        focus rfl
        focus exact hkl
      focus rfl
      (refine Ga ?_)
      apply Lst_loadS' (cs := ucs us[k])
      focus rfl
      focus rfl
      focus rfl
      focus rfl
      focus rfl
      focus exact hcA
      focus rfl
      (refine Ga ?_)
      (apply Lst_call; (focus rfl); (focus rfl))
      refine (c_Insert us[k] p F _ A (by omega) hS).mono ?_
      rintro v D ⟨rfl, F', hSD, hT⟩
      rw [hins] at hSD
      have hlow' := hT.low hlow hbA.size
      (refine Ga ?_)
      refine rndQ_n (α := Nat × (Nat → Prop)) (k + 1, F') ⟨hkl, hSD, hlow'.1, hTA.trans hT, hbA.trans hlow'.2⟩ ⟨rfl, rfl, rfl, ?_, trivial⟩ (by dsimp only; omega)
      exact congrArg (Value.int .i64) (by dsimp only; omega)
    · obtain rfl : k = us.length := by omega
      rw [List.take_length] at hS
      have hsz : (Fo.putL .nil us).sz = us.length := by
        have := Fo.putL_sz Fo.Good.nil hok
        rw [nil_sz] at this
        omega
      have bA : Below w.heap.size w A := hb1.trans (hbA.mono hb1.size)
      generalize Fo.putL .nil us = T at *
      (refine Ga ?_)
      (apply Lst_call; (focus rfl); (focus rfl))
      refine (s_Len hS).mono ?_
      rintro v A' ⟨rfl, rfl⟩
      (refine Ga ?_)
      (apply Lst_call; (focus rfl); (focus rfl))
      refine (Wire.h_Place y1 ((T.sz : Int) + 1) A (by omega) (by omega)).mono ?_
      rintro v A' ⟨rfl, rfl⟩
      obtain ⟨n, hn⟩ : ∃ n : Nat, y1 % ((T.sz : Int) + 1) = (n : Int) := ⟨(y1 % ((T.sz : Int) + 1)).toNat, by have := Int.emod_nonneg y1 (show (T.sz : Int) + 1 ≠ 0 by omega); omega⟩
      have hnT : n ≤ T.sz := by have := Int.emod_lt_of_pos y1 (show 0 < (T.sz : Int) + 1 by omega); omega
      rw [hn]
      (refine Ga ?_)
      (apply Lst_call; (focus rfl); (focus rfl))
      refine (c_walks n hnT hS (by omega)).mono ?_
      rintro v B ⟨rfl, hbB⟩
      (refine Ga ?_)
      (apply Lst_call; (focus rfl); (focus rfl))
      refine (c_walks n hnT (hS.below hbB) (by omega)).mono ?_
      rintro v C ⟨rfl, hbC⟩
      have b8 := bA.trans (hbB.mono bA.size)
      (refine Ga ?_)
      (apply retQ1; (focus rfl))
      exact ⟨rfl, b8.trans (hbC.mono b8.size)⟩
  · (refine Ga ?_)
    (apply retQ1; (focus rfl))
    exact ⟨rfl, hb1⟩
end Sq
end Go.Proofs.Ytmammcgdjjldbaa
