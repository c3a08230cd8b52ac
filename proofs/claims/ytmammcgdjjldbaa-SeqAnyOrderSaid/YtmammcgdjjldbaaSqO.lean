/- known. -/
import Derived.Test.YtmammcgdjjldbaaSqN
namespace Go.Proofs.Ytmammcgdjjldbaa
set_option maxRecDepth 100000
namespace Sq
open Go Go.RowKit Sx Tl
theorem Turn.low {F F' : Nat → Prop} {A B : World} {N : Nat} (h : Turn F F' A B) (hF : ∀ g, F g → N ≤ g) (hN : N ≤ A.heap.size) : (∀ g, F' g → N ≤ g) ∧ Below N A B :=
  ⟨fun g hg => by
    rcases Nat.lt_or_ge g A.heap.size with h1 | h1
    · exact hF g ((h.own g h1).1 hg)
    · omega, ⟨h.os, h.tape, h.output, h.size, fun g hg => h.block g (by omega) fun hf => by have := hF g hf; omega⟩⟩
/-- A new sequence, and three ids in boxes. -/
structure KS (w A : World) (p b2 b3 b4 : Nat) (x2 x3 x4 : Id) (t : Fo) (F : Nat → Prop) : Prop where
  at' : SqAt A p F t
  low : ∀ g, F g → w.heap.size ≤ g
  bel : Below w.heap.size w A
  k2 : Blk A b2 (idcs x2) 32
  k3 : Blk A b3 (idcs x3) 32
  k4 : Blk A b4 (idcs x4) 32
  n2 : ¬ F b2
  n3 : ¬ F b3
  n4 : ¬ F b4
variable {w A A' : World} {p b2 b3 b4 : Nat} {x2 x3 x4 : Id} {t t' : Fo} {F F' : Nat → Prop}
theorem KS.turn (h : KS w A p b2 b3 b4 x2 x3 x4 t F) (hs : SqAt A' p F' t') (hT : Turn F F' A A') : KS w A' p b2 b3 b4 x2 x3 x4 t' F' := by
  have h1 := hT.low h.low h.bel.size
  have own : ∀ b, b < A.heap.size → ¬ F b → ¬ F' b := fun b hb hn hf => hn ((hT.own b hb).1 hf)
  exact ⟨hs, h1.1, h.bel.trans h1.2, hT.blk h.k2 h.n2, hT.blk h.k3 h.n3, hT.blk h.k4 h.n4, own _ h.k2.lt h.n2, own _ h.k3.lt h.n3, own _ h.k4.lt h.n4⟩
theorem KS.below (h : KS w A p b2 b3 b4 x2 x3 x4 t F) (hb : Below A.heap.size A A') : KS w A' p b2 b3 b4 x2 x3 x4 t F := h.turn (h.at'.below hb) (.of hb)
def kA : Un := ⟨(1, 1), (0, 0), (0, 0)⟩
def kB : Un := ⟨(1, 2), (1, 1), (0, 0)⟩
def kC : Un := ⟨(2, 1), (1, 1), (1, 2)⟩
def kD : Un := ⟨(1, 3), (1, 1), (2, 1)⟩
def kE : Un := ⟨(9, 1), (1, 2), (1, 1)⟩
def kG : Un := ⟨(9, 1), (8, 8), (0, 0)⟩
def kH : Un := ⟨(9, 1), (1, 2), (0, 0)⟩
structure KX (w A : World) (p b2 b3 b4 b6 : Nat) (x2 x3 x4 : Id) (t : Fo) (F : Nat → Prop) : Prop extends KS w A p b2 b3 b4 x2 x3 x4 t F where
  k6 : Blk A b6 (ucs kD) 34
  n6 : ¬ F b6
theorem KX.turn {b6 : Nat} (h : KX w A p b2 b3 b4 b6 x2 x3 x4 t F) (hs : SqAt A' p F' t') (hT : Turn F F' A A') : KX w A' p b2 b3 b4 b6 x2 x3 x4 t' F' :=
  ⟨h.toKS.turn hs hT, hT.blk h.k6 h.n6, fun hf => h.n6 ((hT.own _ h.k6.lt).1 hf)⟩
theorem KX.below {b6 : Nat} (h : KX w A p b2 b3 b4 b6 x2 x3 x4 t F) (hb : Below A.heap.size A A') : KX w A' p b2 b3 b4 b6 x2 x3 x4 t F := h.turn (h.at'.below hb) (.of hb)
def kT1 : Fo := (Fo.insert .nil kA).1
def kT2 : Fo := (Fo.insert kT1 kB).1
def kT3 : Fo := (Fo.insert kT2 kC).1
def kT4 : Fo := (Fo.insert kT3 kD).1
theorem m1 : Fo.may .nil kA = true := by decide
theorem m2 : Fo.may kT1 kB = true := by decide
theorem m3 : Fo.may kT2 kC = true := by decide
theorem m4 : Fo.may kT3 kD = true := by decide
theorem z4 : kT4.sz = 4 := by decide
theorem a4 : kT4.flat.getD 1 default = kD := by decide
theorem f3 : (2, 1) ∈ kT4.ids ∧ kT4.pos (2, 1) = 2 := by decide
theorem f2 : (1, 2) ∈ kT4.ids ∧ kT4.pos (1, 2) = 3 := by decide
theorem m5 : Fo.may kT4 kA = false := by decide
theorem m6 : Fo.may kT4 kE = false := by decide
theorem m7 : Fo.may kT4 kG = false := by decide
theorem r8 : runOk kT4 kH 3 = true := by decide
theorem f9 : (9, 3) ∈ (runR kT4 kH 3).ids ∧ (runR kT4 kH 3).pos (9, 3) = 6 ∧ (runR kT4 kH 3).sz = 7 := by decide
attribute [local irreducible] W Lst Qst Pu seqQ blkQ rndQ cutQ retQ Does Enters IntKind.wrap bits sb World.alloc World.putObj Blk
theorem c_id (a b : Nat) (w : World) : Does Try.prog 20 #[.int .u64 (a : Int), .int .u64 (b : Int)] w fun v w' => v = idv (a, b) ∧ Below w.heap.size w w' := by
  refine Does_of (args := [.int .u64 (a : Int), .int .u64 (b : Int)]) Try.func20 (by kernel_rfl) rfl rfl rfl rfl rfl ?_
  (refine Ga ?_)
  (refine Reta ?_)
  exact ⟨rfl, Bel⟩
attribute [local irreducible] Rn Tk rnQ
attribute [local irreducible] RnS
set_option maxHeartbeats 1000000 in
theorem c_known (w : World) : Does Try.prog 12 #[] w fun v w' => v = .bool true ∧ Below w.heap.size w w' := by
  refine Does_of (args := []) Try.func12 (by kernel_rfl) rfl rfl rfl rfl rfl ?_
  (refine Ga ?_)
  (apply Lst_call; (focus rfl); (focus rfl))
  refine (c_New w).mono ?_
  rintro v w1 ⟨p, F0, rfl, hS0, hlow, hb1⟩
  (refine Ga ?_)
  (apply Lst_call; (focus rfl); (focus rfl))
  refine (c_id 1 1 w1).mono ?_
  rintro v w2 ⟨rfl, hb2⟩
  (refine Ga ?_)
  (apply Lst_call; (focus rfl); (focus rfl))
  refine (c_id 1 2 w2).mono ?_
  rintro v w3 ⟨rfl, hb3⟩
  (refine Ga ?_)
  (apply Lst_call; (focus rfl); (focus rfl))
  refine (c_id 2 1 w3).mono ?_
  rintro v w4 ⟨rfl, hb4⟩
  have hb14 : Below w1.heap.size w1 w4 := (hb2.trans (hb3.mono hb2.size)).trans (hb4.mono (Nat.le_trans hb2.size hb3.size))
  have hS4 := hS0.below hb14
  have hbw := hb1.trans (hb14.mono hb1.size)
  clear hS0 hb1 hb2 hb3 hb4 hb14
  unfold idv idcs
  (refine Ga ?_)
  obtain ⟨W5, hW5⟩ : ∃ W5, (((((w4.alloc (.cells [.int .u64 0, .int .u64 0].toArray 32)).alloc (.cells [.int .u64 0, .int .u64 0].toArray 32)).alloc (.cells [.int .u64 0, .int .u64 0].toArray 32)).putObj w4.heap.size (.cells [.int .u64 (((1, 1) : Id).1 : Int), .int .u64 (((1, 1) : Id).2 : Int)].toArray 32)).putObj (w4.heap.size + 1) (.cells [.int .u64 (((1, 2) : Id).1 : Int), .int .u64 (((1, 2) : Id).2 : Int)].toArray 32)).putObj (w4.heap.size + 1 + 1) (.cells [.int .u64 (((2, 1) : Id).1 : Int), .int .u64 (((2, 1) : Id).2 : Int)].toArray 32) = W5 := ⟨_, rfl⟩
  have hb5 : Below w4.heap.size w4 W5 := by rw [← hW5]; exact Bel
  have k2 : Blk W5 w4.heap.size (idcs (1, 1)) 32 := by rw [← hW5]; unfold idcs; exact (by (repeat (first | assumption | (apply Blk.below (hb := hb1); rotate_left; (focus ((try simp only [Sx.sizes]); omega)); rotate_right) | (apply Blk.below (hb := hb2); rotate_left; (focus ((try simp only [Sx.sizes]); omega)); rotate_right) | (apply Blk.below (hb := hb3); rotate_left; (focus ((try simp only [Sx.sizes]); omega)); rotate_right) | (apply Blk.below (hb := hb4); rotate_left; (focus ((try simp only [Sx.sizes]); omega)); rotate_right) | (apply Blk.below (hb := hb5); rotate_left; (focus ((try simp only [Sx.sizes]); omega)); rotate_right) | (apply Blk.below (hb := hb6); rotate_left; (focus ((try simp only [Sx.sizes]); omega)); rotate_right) | (apply Blk.below (hb := hb7); rotate_left; (focus ((try simp only [Sx.sizes]); omega)); rotate_right) | (apply Blk.below (hb := hb8); rotate_left; (focus ((try simp only [Sx.sizes]); omega)); rotate_right) | (apply Blk.below (hb := hb9); rotate_left; (focus ((try simp only [Sx.sizes]); omega)); rotate_right) | exact Blk.newE (by first | rfl | ((try simp only [Sx.sizes]); first | done | omega)) _ _ | exact Blk.put_same (by (try simp only [Sx.sizes]); first | done | omega) _ _ | (apply Blk.put_ne; (focus omega)) | apply Blk.alloc | apply Blk.drew)); done)
  have k3 : Blk W5 (w4.heap.size + 1) (idcs (1, 2)) 32 := by rw [← hW5]; unfold idcs; exact (by (repeat (first | assumption | (apply Blk.below (hb := hb1); rotate_left; (focus ((try simp only [Sx.sizes]); omega)); rotate_right) | (apply Blk.below (hb := hb2); rotate_left; (focus ((try simp only [Sx.sizes]); omega)); rotate_right) | (apply Blk.below (hb := hb3); rotate_left; (focus ((try simp only [Sx.sizes]); omega)); rotate_right) | (apply Blk.below (hb := hb4); rotate_left; (focus ((try simp only [Sx.sizes]); omega)); rotate_right) | (apply Blk.below (hb := hb5); rotate_left; (focus ((try simp only [Sx.sizes]); omega)); rotate_right) | (apply Blk.below (hb := hb6); rotate_left; (focus ((try simp only [Sx.sizes]); omega)); rotate_right) | (apply Blk.below (hb := hb7); rotate_left; (focus ((try simp only [Sx.sizes]); omega)); rotate_right) | (apply Blk.below (hb := hb8); rotate_left; (focus ((try simp only [Sx.sizes]); omega)); rotate_right) | (apply Blk.below (hb := hb9); rotate_left; (focus ((try simp only [Sx.sizes]); omega)); rotate_right) | exact Blk.newE (by first | rfl | ((try simp only [Sx.sizes]); first | done | omega)) _ _ | exact Blk.put_same (by (try simp only [Sx.sizes]); first | done | omega) _ _ | (apply Blk.put_ne; (focus omega)) | apply Blk.alloc | apply Blk.drew)); done)
  have k4 : Blk W5 (w4.heap.size + 1 + 1) (idcs (2, 1)) 32 := by rw [← hW5]; unfold idcs; exact (by (repeat (first | assumption | (apply Blk.below (hb := hb1); rotate_left; (focus ((try simp only [Sx.sizes]); omega)); rotate_right) | (apply Blk.below (hb := hb2); rotate_left; (focus ((try simp only [Sx.sizes]); omega)); rotate_right) | (apply Blk.below (hb := hb3); rotate_left; (focus ((try simp only [Sx.sizes]); omega)); rotate_right) | (apply Blk.below (hb := hb4); rotate_left; (focus ((try simp only [Sx.sizes]); omega)); rotate_right) | (apply Blk.below (hb := hb5); rotate_left; (focus ((try simp only [Sx.sizes]); omega)); rotate_right) | (apply Blk.below (hb := hb6); rotate_left; (focus ((try simp only [Sx.sizes]); omega)); rotate_right) | (apply Blk.below (hb := hb7); rotate_left; (focus ((try simp only [Sx.sizes]); omega)); rotate_right) | (apply Blk.below (hb := hb8); rotate_left; (focus ((try simp only [Sx.sizes]); omega)); rotate_right) | (apply Blk.below (hb := hb9); rotate_left; (focus ((try simp only [Sx.sizes]); omega)); rotate_right) | exact Blk.newE (by first | rfl | ((try simp only [Sx.sizes]); first | done | omega)) _ _ | exact Blk.put_same (by (try simp only [Sx.sizes]); first | done | omega) _ _ | (apply Blk.put_ne; (focus omega)) | apply Blk.alloc | apply Blk.drew)); done)
  rw [hW5]
  clear hW5
  have hK : KS w W5 p w4.heap.size (w4.heap.size + 1) (w4.heap.size + 1 + 1) (1, 1) (1, 2) (2, 1) .nil F0 :=
    ⟨hS4.below hb5, hlow, hbw.trans (hb5.mono hbw.size), k2, k3, k4, fun hf => by have := hS4.lt hf; omega, fun hf => by have := hS4.lt hf; omega, fun hf => by have := hS4.lt hf; omega⟩
  clear hS4 hbw hb5 k2 k3 k4 hlow
  generalize w4.heap.size = b2 at *
  generalize b2 + 1 + 1 = b4 at *
  generalize b2 + 1 = b3 at *
  clear w4
  refine W_drawS 28 (fun A => Blk A b2 (idcs (1, 1)) 32 ∧ Blk A b3 (idcs (1, 2)) 32 ∧ Blk A b4 (idcs (2, 1)) 32) rfl rfl ?_
  have hKa := hK.below (Below.drew (Below.refl _ _))
  clear hK
  refine S_takeV 0 27 rfl (by kernel_rfl) (by repeat (first | exact retQ_p | apply seqQ_p | apply blkQ_p | apply rndQ_p | apply cutQ_p)) ⟨hKa.k2, hKa.k3, hKa.k4⟩ ?_
  (refine Qb ?_)
  refine S_takeV 1 26 rfl (by kernel_rfl) (by repeat (first | exact retQ_p | apply seqQ_p | apply blkQ_p | apply rndQ_p | apply cutQ_p)) ⟨hKa.k2, hKa.k3, hKa.k4⟩ ?_
  apply Qst_loadA
  focus rfl
  focus rfl
  focus rfl
  focus rfl
  focus rfl
  focus exact fun A9 hA9 => hA9.1
  focus (repeat constructor)
  focus rfl
  (refine Qb ?_)
  refine S_takeV 2 25 rfl (by kernel_rfl) (by repeat (first | exact retQ_p | apply seqQ_p | apply blkQ_p | apply rndQ_p | apply cutQ_p)) ⟨hKa.k2, hKa.k3, hKa.k4⟩ ?_
  (refine Qb ?_)
  refine S_any [3] 24 rfl (by kernel_rfl) (all1 ?_)
  (apply Lst_call; (focus rfl); (focus rfl))
  refine (c_Insert kA p _ .nil _ (by decide) hKa.at').mono ?_
  rintro v Wb ⟨rfl, Fb, hSb, hTb⟩
  have hKb : KS w Wb p b2 b3 b4 (1, 1) (1, 2) (2, 1) kT1 Fb := hKa.turn hSb hTb
  rw [m1]
  clear hKa hSb hTb
  apply Lst_nil
  apply rnQ_n
  refine ⟨⟨hKb.k2, hKb.k3, hKb.k4⟩, ?_⟩
  refine S_takeV 4 23 rfl (by kernel_rfl) (by repeat (first | exact retQ_p | apply seqQ_p | apply blkQ_p | apply rndQ_p | apply cutQ_p)) ⟨hKb.k2, hKb.k3, hKb.k4⟩ ?_
  (refine Qb ?_)
  refine S_takeV 5 22 rfl (by kernel_rfl) (by repeat (first | exact retQ_p | apply seqQ_p | apply blkQ_p | apply rndQ_p | apply cutQ_p)) ⟨hKb.k2, hKb.k3, hKb.k4⟩ ?_
  apply Qst_guard_t
  focus rfl
  focus rfl
  (refine Qb ?_)
  refine S_takeV 6 21 rfl (by kernel_rfl) (by repeat (first | exact retQ_p | apply seqQ_p | apply blkQ_p | apply rndQ_p | apply cutQ_p)) ⟨hKb.k2, hKb.k3, hKb.k4⟩ ?_
  apply Qst_guard_t
  focus rfl
  focus rfl
  apply Qst_loadA
  focus rfl
  focus rfl
  focus rfl
  focus rfl
  focus rfl
  focus exact fun A9 hA9 => hA9.2.1
  focus (repeat constructor)
  focus rfl
  (refine Qb ?_)
  refine S_takeV 7 20 rfl (by kernel_rfl) (by repeat (first | exact retQ_p | apply seqQ_p | apply blkQ_p | apply rndQ_p | apply cutQ_p)) ⟨hKb.k2, hKb.k3, hKb.k4⟩ ?_
  apply Qst_guard_t
  focus rfl
  focus rfl
  apply Qst_loadA
  focus rfl
  focus rfl
  focus rfl
  focus rfl
  focus rfl
  focus exact fun A9 hA9 => hA9.1
  focus (repeat constructor)
  focus rfl
  (refine Qb ?_)
  refine S_takeV 8 19 rfl (by kernel_rfl) (by repeat (first | exact retQ_p | apply seqQ_p | apply blkQ_p | apply rndQ_p | apply cutQ_p)) ⟨hKb.k2, hKb.k3, hKb.k4⟩ ?_
  apply Qst_guard_t
  focus rfl
  focus rfl
  (refine Qb ?_)
  refine S_any [9] 18 rfl (by kernel_rfl) (all1 ?_)
  (refine Gt ?_)
  (apply Lst_call; (focus rfl); (focus rfl))
  refine (c_Insert kB p _ kT1 _ (by decide) hKb.at').mono ?_
  rintro v Wc ⟨rfl, Fc, hSc, hTc⟩
  have hKc : KS w Wc p b2 b3 b4 (1, 1) (1, 2) (2, 1) kT2 Fc := hKb.turn hSc hTc
  rw [m2]
  clear hKb hSc hTc
  apply Lst_nil
  apply rnQ_n
  refine ⟨⟨hKc.k2, hKc.k3, hKc.k4⟩, ?_⟩
  refine S_takeV 10 17 rfl (by kernel_rfl) (by repeat (first | exact retQ_p | apply seqQ_p | apply blkQ_p | apply rndQ_p | apply cutQ_p)) ⟨hKc.k2, hKc.k3, hKc.k4⟩ ?_
  (refine Qb ?_)
  refine S_takeV 11 16 rfl (by kernel_rfl) (by repeat (first | exact retQ_p | apply seqQ_p | apply blkQ_p | apply rndQ_p | apply cutQ_p)) ⟨hKc.k2, hKc.k3, hKc.k4⟩ ?_
  (refine Qb ?_)
  refine S_takeV 12 15 rfl (by kernel_rfl) (by repeat (first | exact retQ_p | apply seqQ_p | apply blkQ_p | apply rndQ_p | apply cutQ_p)) ⟨hKc.k2, hKc.k3, hKc.k4⟩ ?_
  apply Qst_guard_t
  focus rfl
  focus rfl
  (refine Qb ?_)
  refine S_takeV 13 14 rfl (by kernel_rfl) (by repeat (first | exact retQ_p | apply seqQ_p | apply blkQ_p | apply rndQ_p | apply cutQ_p)) ⟨hKc.k2, hKc.k3, hKc.k4⟩ ?_
  apply Qst_guard_t
  focus rfl
  focus rfl
  apply Qst_loadA
  focus rfl
  focus rfl
  focus rfl
  focus rfl
  focus rfl
  focus exact fun A9 hA9 => hA9.2.2
  focus (repeat constructor)
  focus rfl
  (refine Qb ?_)
  refine S_takeV 14 13 rfl (by kernel_rfl) (by repeat (first | exact retQ_p | apply seqQ_p | apply blkQ_p | apply rndQ_p | apply cutQ_p)) ⟨hKc.k2, hKc.k3, hKc.k4⟩ ?_
  apply Qst_guard_t
  focus rfl
  focus rfl
  apply Qst_loadA
  focus rfl
  focus rfl
  focus rfl
  focus rfl
  focus rfl
  focus exact fun A9 hA9 => hA9.1
  focus (repeat constructor)
  focus rfl
  (refine Qb ?_)
  refine S_takeV 15 12 rfl (by kernel_rfl) (by repeat (first | exact retQ_p | apply seqQ_p | apply blkQ_p | apply rndQ_p | apply cutQ_p)) ⟨hKc.k2, hKc.k3, hKc.k4⟩ ?_
  apply Qst_guard_t
  focus rfl
  focus rfl
  apply Qst_loadA
  focus rfl
  focus rfl
  focus rfl
  focus rfl
  focus rfl
  focus exact fun A9 hA9 => hA9.2.1
  focus (repeat constructor)
  focus rfl
  (refine Qb ?_)
  refine S_takeV 16 11 rfl (by kernel_rfl) (by repeat (first | exact retQ_p | apply seqQ_p | apply blkQ_p | apply rndQ_p | apply cutQ_p)) ⟨hKc.k2, hKc.k3, hKc.k4⟩ ?_
  apply Qst_guard_t
  focus rfl
  focus rfl
  (refine Qb ?_)
  refine S_any [17] 10 rfl (by kernel_rfl) (all1 ?_)
  (refine Gt ?_)
  (apply Lst_call; (focus rfl); (focus rfl))
  refine (c_Insert kC p _ kT2 _ (by decide) hKc.at').mono ?_
  rintro v Wd ⟨rfl, Fd, hSd, hTd⟩
  have hKd : KS w Wd p b2 b3 b4 (1, 1) (1, 2) (2, 1) kT3 Fd := hKc.turn hSd hTd
  rw [m3]
  clear hKc hSd hTd
  apply Lst_nil
  apply rnQ_n
  refine ⟨⟨hKd.k2, hKd.k3, hKd.k4⟩, ?_⟩
  refine S_takeV 18 9 rfl (by kernel_rfl) (by repeat (first | exact retQ_p | apply seqQ_p | apply blkQ_p | apply rndQ_p | apply cutQ_p)) ⟨hKd.k2, hKd.k3, hKd.k4⟩ ?_
  (refine Qb ?_)
  refine S_takeV 19 8 rfl (by kernel_rfl) (by repeat (first | exact retQ_p | apply seqQ_p | apply blkQ_p | apply rndQ_p | apply cutQ_p)) ⟨hKd.k2, hKd.k3, hKd.k4⟩ ?_
  (refine Qb ?_)
  refine S_takeV 20 7 rfl (by kernel_rfl) (by repeat (first | exact retQ_p | apply seqQ_p | apply blkQ_p | apply rndQ_p | apply cutQ_p)) ⟨hKd.k2, hKd.k3, hKd.k4⟩ ?_
  apply Qst_guard_t
  focus rfl
  focus rfl
  (refine Qb ?_)
  refine S_takeV 22 6 rfl (by kernel_rfl) (by repeat (first | exact retQ_p | apply seqQ_p | apply blkQ_p | apply rndQ_p | apply cutQ_p)) ⟨hKd.k2, hKd.k3, hKd.k4⟩ ?_
  apply Qst_guard_t
  focus rfl
  focus rfl
  apply Qst_loadA
  focus rfl
  focus rfl
  focus rfl
  focus rfl
  focus rfl
  focus exact fun A9 hA9 => hA9.1
  focus (repeat constructor)
  focus rfl
  (refine Qb ?_)
  refine S_takeV 23 5 rfl (by kernel_rfl) (by repeat (first | exact retQ_p | apply seqQ_p | apply blkQ_p | apply rndQ_p | apply cutQ_p)) ⟨hKd.k2, hKd.k3, hKd.k4⟩ ?_
  apply Qst_guard_t
  focus rfl
  focus rfl
  apply Qst_loadA
  focus rfl
  focus rfl
  focus rfl
  focus rfl
  focus rfl
  focus exact fun A9 hA9 => hA9.2.2
  focus (repeat constructor)
  focus rfl
  (refine Qb ?_)
  refine S_any [21] 4 rfl (by kernel_rfl) (all1 ?_)
  (refine Gt ?_)
  (apply Lst_call; (focus rfl); (focus rfl))
  refine (c_id 1 3 _).mono ?_
  rintro v We ⟨rfl, hbe⟩
  have hKe := hKd.below hbe
  clear hKd hbe
  unfold idv idcs
  apply Lst_nil
  apply rnQ_n
  refine ⟨⟨hKe.k2, hKe.k3, hKe.k4⟩, ?_⟩
  refine S_takeV 24 3 rfl (by kernel_rfl) (by repeat (first | exact retQ_p | apply seqQ_p | apply blkQ_p | apply rndQ_p | apply cutQ_p)) ⟨hKe.k2, hKe.k3, hKe.k4⟩ ?_
  apply Qst_guard_t
  focus rfl
  focus rfl
  (refine Qb ?_)
  refine S_any [25] 2 rfl (by kernel_rfl) (all1 ?_)
  (refine Gt ?_)
  (apply Lst_call; (focus rfl); (focus rfl))
  refine (c_Insert kD p _ kT3 _ (by decide) hKe.at').mono ?_
  rintro v Wf ⟨rfl, Ff, hSf, hTf⟩
  have hKf : KS w Wf p b2 b3 b4 (1, 1) (1, 2) (2, 1) kT4 Ff := hKe.turn hSf hTf
  rw [m4]
  clear hKe hSf hTf
  apply Lst_nil
  apply rnQ_n
  refine ⟨⟨hKf.k2, hKf.k3, hKf.k4⟩, ?_⟩
  refine S_takeV 26 1 rfl (by kernel_rfl) (by repeat (first | exact retQ_p | apply seqQ_p | apply blkQ_p | apply rndQ_p | apply cutQ_p)) ⟨hKf.k2, hKf.k3, hKf.k4⟩ ?_
  (refine Qb ?_)
  refine S_takeV 27 0 rfl (by kernel_rfl) (by repeat (first | exact retQ_p | apply seqQ_p | apply blkQ_p | apply rndQ_p | apply cutQ_p)) ⟨hKf.k2, hKf.k3, hKf.k4⟩ ?_
  (refine Qb ?_)
  refine S_done (by kernel_rfl) ?_
  (refine Ga ?_)
  (apply Lst_call; (focus rfl); (focus rfl))
  refine (s_At 1 hKf.at').mono ?_
  rintro v Wg ⟨rfl, hbg⟩
  have hKg := hKf.below hbg
  rw [z4, if_pos (by decide), show (1 : Int).toNat = 1 from rfl, a4]
  clear hKf hbg
  have hcD : (ucs kD).toArray = #[.int .u64 (kD.id.1 : Int), .int .u64 (kD.id.2 : Int), .int .u64 (kD.l.1 : Int), .int .u64 (kD.l.2 : Int), .int .u64 (kD.r.1 : Int), .int .u64 (kD.r.2 : Int)] := rfl
  rw [hcD]
  (refine Ga ?_)
  obtain ⟨X, hXe⟩ : ∃ X, (Wg.alloc (.cells [.int .u64 0, .int .u64 0, .int .u64 0, .int .u64 0, .int .u64 0, .int .u64 0].toArray 34)).putObj Wg.heap.size (.cells [.int .u64 (kD.id.1 : Int), .int .u64 (kD.id.2 : Int), .int .u64 (kD.l.1 : Int), .int .u64 (kD.l.2 : Int), .int .u64 (kD.r.1 : Int), .int .u64 (kD.r.2 : Int)].toArray 34) = X := ⟨_, rfl⟩
  have hbX : Below Wg.heap.size Wg X := by rw [← hXe]; exact Bel
  have k6 : Blk X Wg.heap.size (ucs kD) 34 := by rw [← hXe]; unfold ucs; exact (by (repeat (first | assumption | (apply Blk.below (hb := hb1); rotate_left; (focus ((try simp only [Sx.sizes]); omega)); rotate_right) | (apply Blk.below (hb := hb2); rotate_left; (focus ((try simp only [Sx.sizes]); omega)); rotate_right) | (apply Blk.below (hb := hb3); rotate_left; (focus ((try simp only [Sx.sizes]); omega)); rotate_right) | (apply Blk.below (hb := hb4); rotate_left; (focus ((try simp only [Sx.sizes]); omega)); rotate_right) | (apply Blk.below (hb := hb5); rotate_left; (focus ((try simp only [Sx.sizes]); omega)); rotate_right) | (apply Blk.below (hb := hb6); rotate_left; (focus ((try simp only [Sx.sizes]); omega)); rotate_right) | (apply Blk.below (hb := hb7); rotate_left; (focus ((try simp only [Sx.sizes]); omega)); rotate_right) | (apply Blk.below (hb := hb8); rotate_left; (focus ((try simp only [Sx.sizes]); omega)); rotate_right) | (apply Blk.below (hb := hb9); rotate_left; (focus ((try simp only [Sx.sizes]); omega)); rotate_right) | exact Blk.newE (by first | rfl | ((try simp only [Sx.sizes]); first | done | omega)) _ _ | exact Blk.put_same (by (try simp only [Sx.sizes]); first | done | omega) _ _ | (apply Blk.put_ne; (focus omega)) | apply Blk.alloc | apply Blk.drew)); done)
  rw [hXe]
  clear hXe
  have hK1 : KX w X p b2 b3 b4 Wg.heap.size (1, 1) (1, 2) (2, 1) kT4 Ff := ⟨hKg.below hbX, k6, fun hf => by have := hKg.at'.lt hf; omega⟩
  clear hKg hbX k6
  generalize Wg.heap.size = b6 at *
  refine W_drawS 65 (fun A => Blk A b2 (idcs (1, 1)) 32 ∧ Blk A b3 (idcs (1, 2)) 32 ∧ Blk A b4 (idcs (2, 1)) 32 ∧ Blk A b6 (ucs kD) 34) rfl rfl ?_
  have hKz0 := hK1.below (Below.drew (Below.refl _ _))
  clear hK1
  refine S_takeV 0 64 rfl (by kernel_rfl) (by repeat (first | exact retQ_p | apply seqQ_p | apply blkQ_p | apply rndQ_p | apply cutQ_p)) ⟨hKz0.k2, hKz0.k3, hKz0.k4, hKz0.k6⟩ ?_
  (refine Qb ?_)
  refine S_takeV 1 63 rfl (by kernel_rfl) (by repeat (first | exact retQ_p | apply seqQ_p | apply blkQ_p | apply rndQ_p | apply cutQ_p)) ⟨hKz0.k2, hKz0.k3, hKz0.k4, hKz0.k6⟩ ?_
  (refine Qb ?_)
  refine S_takeV 2 62 rfl (by kernel_rfl) (by repeat (first | exact retQ_p | apply seqQ_p | apply blkQ_p | apply rndQ_p | apply cutQ_p)) ⟨hKz0.k2, hKz0.k3, hKz0.k4, hKz0.k6⟩ ?_
  apply Qst_guard_t
  focus rfl
  focus rfl
  (refine Qb ?_)
  refine S_takeV 3 61 rfl (by kernel_rfl) (by repeat (first | exact retQ_p | apply seqQ_p | apply blkQ_p | apply rndQ_p | apply cutQ_p)) ⟨hKz0.k2, hKz0.k3, hKz0.k4, hKz0.k6⟩ ?_
  (refine Qb ?_)
  refine S_takeV 4 60 rfl (by kernel_rfl) (by repeat (first | exact retQ_p | apply seqQ_p | apply blkQ_p | apply rndQ_p | apply cutQ_p)) ⟨hKz0.k2, hKz0.k3, hKz0.k4, hKz0.k6⟩ ?_
  (refine Qb ?_)
  refine S_takeV 5 59 rfl (by kernel_rfl) (by repeat (first | exact retQ_p | apply seqQ_p | apply blkQ_p | apply rndQ_p | apply cutQ_p)) ⟨hKz0.k2, hKz0.k3, hKz0.k4, hKz0.k6⟩ ?_
  apply Qst_guard_t
  focus rfl
  focus rfl
  (refine Qb ?_)
  refine S_takeV 6 58 rfl (by kernel_rfl) (by repeat (first | exact retQ_p | apply seqQ_p | apply blkQ_p | apply rndQ_p | apply cutQ_p)) ⟨hKz0.k2, hKz0.k3, hKz0.k4, hKz0.k6⟩ ?_
  apply Qst_guard_t
  focus rfl
  focus rfl
  apply Qst_loadA
  focus rfl
  focus rfl
  focus rfl
  focus rfl
  focus rfl
  focus exact fun A9 hA9 => hA9.2.2.2
  focus (repeat constructor)
  focus rfl
  (refine Qb ?_)
  refine S_any [7] 57 rfl (by kernel_rfl) (all1 ?_)
  (refine Gt ?_)
  (apply Lst_call; (focus rfl); (focus rfl))
  refine (c_id 1 3 _).mono ?_
  rintro v Wz1 ⟨rfl, hbz1⟩
  have hKz1 := hKz0.below hbz1
  clear hKz0 hbz1
  unfold idv idcs
  apply Lst_nil
  apply rnQ_n
  refine ⟨⟨hKz1.k2, hKz1.k3, hKz1.k4, hKz1.k6⟩, ?_⟩
  refine S_takeV 8 56 rfl (by kernel_rfl) (by repeat (first | exact retQ_p | apply seqQ_p | apply blkQ_p | apply rndQ_p | apply cutQ_p)) ⟨hKz1.k2, hKz1.k3, hKz1.k4, hKz1.k6⟩ ?_
  apply Qst_guard_t
  focus rfl
  focus rfl
  (refine Qb ?_)
  refine S_takeV 9 55 rfl (by kernel_rfl) (by repeat (first | exact retQ_p | apply seqQ_p | apply blkQ_p | apply rndQ_p | apply cutQ_p)) ⟨hKz1.k2, hKz1.k3, hKz1.k4, hKz1.k6⟩ ?_
  (refine Qb ?_)
  refine S_takeV 10 54 rfl (by kernel_rfl) (by repeat (first | exact retQ_p | apply seqQ_p | apply blkQ_p | apply rndQ_p | apply cutQ_p)) ⟨hKz1.k2, hKz1.k3, hKz1.k4, hKz1.k6⟩ ?_
  (refine Qb ?_)
  refine S_takeV 11 53 rfl (by kernel_rfl) (by repeat (first | exact retQ_p | apply seqQ_p | apply blkQ_p | apply rndQ_p | apply cutQ_p)) ⟨hKz1.k2, hKz1.k3, hKz1.k4, hKz1.k6⟩ ?_
  apply Qst_guard_t
  focus rfl
  focus rfl
  (refine Qb ?_)
  refine S_takeV 12 52 rfl (by kernel_rfl) (by repeat (first | exact retQ_p | apply seqQ_p | apply blkQ_p | apply rndQ_p | apply cutQ_p)) ⟨hKz1.k2, hKz1.k3, hKz1.k4, hKz1.k6⟩ ?_
  apply Qst_guard_t
  focus rfl
  focus rfl
  apply Qst_loadA
  focus rfl
  focus rfl
  focus rfl
  focus rfl
  focus rfl
  focus exact fun A9 hA9 => hA9.2.2.1
  focus (repeat constructor)
  focus rfl
  (refine Qb ?_)
  refine S_any [13] 51 rfl (by kernel_rfl) (all1 ?_)
  (refine Gt ?_)
  (apply Lst_call; (focus rfl); (focus rfl))
  refine (s_Find (2, 1) (by decide) hKz1.at').mono ?_
  rintro v Wz2 ⟨rfl, hSz2, hTz2⟩
  have hKz2 := hKz1.turn hSz2 hTz2
  rw [if_pos f3.1, f3.2]
  clear hKz1 hSz2 hTz2
  apply Lst_nil
  apply rnQ_n
  refine ⟨⟨hKz2.k2, hKz2.k3, hKz2.k4, hKz2.k6⟩, ?_⟩
  refine S_takeV 14 50 rfl (by kernel_rfl) (by repeat (first | exact retQ_p | apply seqQ_p | apply blkQ_p | apply rndQ_p | apply cutQ_p)) ⟨hKz2.k2, hKz2.k3, hKz2.k4, hKz2.k6⟩ ?_
  apply Qst_guard_t
  focus rfl
  focus rfl
  (refine Qb ?_)
  refine S_takeV 15 49 rfl (by kernel_rfl) (by repeat (first | exact retQ_p | apply seqQ_p | apply blkQ_p | apply rndQ_p | apply cutQ_p)) ⟨hKz2.k2, hKz2.k3, hKz2.k4, hKz2.k6⟩ ?_
  (refine Qb ?_)
  refine S_takeV 16 48 rfl (by kernel_rfl) (by repeat (first | exact retQ_p | apply seqQ_p | apply blkQ_p | apply rndQ_p | apply cutQ_p)) ⟨hKz2.k2, hKz2.k3, hKz2.k4, hKz2.k6⟩ ?_
  (refine Qb ?_)
  refine S_takeV 17 47 rfl (by kernel_rfl) (by repeat (first | exact retQ_p | apply seqQ_p | apply blkQ_p | apply rndQ_p | apply cutQ_p)) ⟨hKz2.k2, hKz2.k3, hKz2.k4, hKz2.k6⟩ ?_
  apply Qst_guard_t
  focus rfl
  focus rfl
  (refine Qb ?_)
  refine S_takeV 18 46 rfl (by kernel_rfl) (by repeat (first | exact retQ_p | apply seqQ_p | apply blkQ_p | apply rndQ_p | apply cutQ_p)) ⟨hKz2.k2, hKz2.k3, hKz2.k4, hKz2.k6⟩ ?_
  apply Qst_guard_t
  focus rfl
  focus rfl
  apply Qst_loadA
  focus rfl
  focus rfl
  focus rfl
  focus rfl
  focus rfl
  focus exact fun A9 hA9 => hA9.2.1
  focus (repeat constructor)
  focus rfl
  (refine Qb ?_)
  refine S_any [19] 45 rfl (by kernel_rfl) (all1 ?_)
  (refine Gt ?_)
  (apply Lst_call; (focus rfl); (focus rfl))
  refine (s_Find (1, 2) (by decide) hKz2.at').mono ?_
  rintro v Wz3 ⟨rfl, hSz3, hTz3⟩
  have hKz3 := hKz2.turn hSz3 hTz3
  rw [if_pos f2.1, f2.2]
  clear hKz2 hSz3 hTz3
  apply Lst_nil
  apply rnQ_n
  refine ⟨⟨hKz3.k2, hKz3.k3, hKz3.k4, hKz3.k6⟩, ?_⟩
  refine S_takeV 20 44 rfl (by kernel_rfl) (by repeat (first | exact retQ_p | apply seqQ_p | apply blkQ_p | apply rndQ_p | apply cutQ_p)) ⟨hKz3.k2, hKz3.k3, hKz3.k4, hKz3.k6⟩ ?_
  apply Qst_guard_t
  focus rfl
  focus rfl
  (refine Qb ?_)
  refine S_takeV 21 43 rfl (by kernel_rfl) (by repeat (first | exact retQ_p | apply seqQ_p | apply blkQ_p | apply rndQ_p | apply cutQ_p)) ⟨hKz3.k2, hKz3.k3, hKz3.k4, hKz3.k6⟩ ?_
  (refine Qb ?_)
  refine S_takeV 22 42 rfl (by kernel_rfl) (by repeat (first | exact retQ_p | apply seqQ_p | apply blkQ_p | apply rndQ_p | apply cutQ_p)) ⟨hKz3.k2, hKz3.k3, hKz3.k4, hKz3.k6⟩ ?_
  (refine Qb ?_)
  refine S_takeV 23 41 rfl (by kernel_rfl) (by repeat (first | exact retQ_p | apply seqQ_p | apply blkQ_p | apply rndQ_p | apply cutQ_p)) ⟨hKz3.k2, hKz3.k3, hKz3.k4, hKz3.k6⟩ ?_
  apply Qst_guard_t
  focus rfl
  focus rfl
  (refine Qb ?_)
  refine S_any [24] 40 rfl (by kernel_rfl) (all1 ?_)
  (refine Gt ?_)
  (apply Lst_call; (focus rfl); (focus rfl))
  refine (s_Len hKz3.at').mono ?_
  rintro v Wz4 ⟨rfl, rfl⟩
  have hKz4 := hKz3
  rw [z4]
  clear hKz3
  apply Lst_nil
  apply rnQ_n
  refine ⟨⟨hKz4.k2, hKz4.k3, hKz4.k4, hKz4.k6⟩, ?_⟩
  refine S_takeV 25 39 rfl (by kernel_rfl) (by repeat (first | exact retQ_p | apply seqQ_p | apply blkQ_p | apply rndQ_p | apply cutQ_p)) ⟨hKz4.k2, hKz4.k3, hKz4.k4, hKz4.k6⟩ ?_
  apply Qst_guard_t
  focus rfl
  focus rfl
  (refine Qb ?_)
  refine S_takeV 26 38 rfl (by kernel_rfl) (by repeat (first | exact retQ_p | apply seqQ_p | apply blkQ_p | apply rndQ_p | apply cutQ_p)) ⟨hKz4.k2, hKz4.k3, hKz4.k4, hKz4.k6⟩ ?_
  (refine Qb ?_)
  refine S_takeV 27 37 rfl (by kernel_rfl) (by repeat (first | exact retQ_p | apply seqQ_p | apply blkQ_p | apply rndQ_p | apply cutQ_p)) ⟨hKz4.k2, hKz4.k3, hKz4.k4, hKz4.k6⟩ ?_
  (refine Qb ?_)
  refine S_takeV 28 36 rfl (by kernel_rfl) (by repeat (first | exact retQ_p | apply seqQ_p | apply blkQ_p | apply rndQ_p | apply cutQ_p)) ⟨hKz4.k2, hKz4.k3, hKz4.k4, hKz4.k6⟩ ?_
  apply Qst_guard_t
  focus rfl
  focus rfl
  (refine Qb ?_)
  refine S_takeV 29 35 rfl (by kernel_rfl) (by repeat (first | exact retQ_p | apply seqQ_p | apply blkQ_p | apply rndQ_p | apply cutQ_p)) ⟨hKz4.k2, hKz4.k3, hKz4.k4, hKz4.k6⟩ ?_
  apply Qst_guard_t
  focus rfl
  focus rfl
  apply Qst_loadA
  focus rfl
  focus rfl
  focus rfl
  focus rfl
  focus rfl
  focus exact fun A9 hA9 => hA9.1
  focus (repeat constructor)
  focus rfl
  (refine Qb ?_)
  refine S_takeV 30 34 rfl (by kernel_rfl) (by repeat (first | exact retQ_p | apply seqQ_p | apply blkQ_p | apply rndQ_p | apply cutQ_p)) ⟨hKz4.k2, hKz4.k3, hKz4.k4, hKz4.k6⟩ ?_
  apply Qst_guard_t
  focus rfl
  focus rfl
  (refine Qb ?_)
  refine S_any [31] 33 rfl (by kernel_rfl) (all1 ?_)
  (refine Gt ?_)
  (apply Lst_call; (focus rfl); (focus rfl))
  refine (c_Insert kA p _ kT4 _ (by decide) hKz4.at').mono ?_
  rintro v Wz5 ⟨rfl, Fz5, hSz5, hTz5⟩
  have hKz5 : KX w Wz5 p b2 b3 b4 b6 (1, 1) (1, 2) (2, 1) kT4 Fz5 := hKz4.turn (by unfold Fo.insert at hSz5; rw [m5] at hSz5; exact hSz5) hTz5
  rw [m5]
  clear hKz4 hSz5 hTz5
  apply Lst_nil
  apply rnQ_n
  refine ⟨⟨hKz5.k2, hKz5.k3, hKz5.k4, hKz5.k6⟩, ?_⟩
  refine S_takeV 32 32 rfl (by kernel_rfl) (by repeat (first | exact retQ_p | apply seqQ_p | apply blkQ_p | apply rndQ_p | apply cutQ_p)) ⟨hKz5.k2, hKz5.k3, hKz5.k4, hKz5.k6⟩ ?_
  apply Qst_guard_t
  focus rfl
  focus rfl
  (refine Qb ?_)
  refine S_takeV 33 31 rfl (by kernel_rfl) (by repeat (first | exact retQ_p | apply seqQ_p | apply blkQ_p | apply rndQ_p | apply cutQ_p)) ⟨hKz5.k2, hKz5.k3, hKz5.k4, hKz5.k6⟩ ?_
  (refine Qb ?_)
  refine S_takeV 34 30 rfl (by kernel_rfl) (by repeat (first | exact retQ_p | apply seqQ_p | apply blkQ_p | apply rndQ_p | apply cutQ_p)) ⟨hKz5.k2, hKz5.k3, hKz5.k4, hKz5.k6⟩ ?_
  (refine Qb ?_)
  refine S_takeV 35 29 rfl (by kernel_rfl) (by repeat (first | exact retQ_p | apply seqQ_p | apply blkQ_p | apply rndQ_p | apply cutQ_p)) ⟨hKz5.k2, hKz5.k3, hKz5.k4, hKz5.k6⟩ ?_
  apply Qst_guard_t
  focus rfl
  focus rfl
  (refine Qb ?_)
  refine S_takeV 37 28 rfl (by kernel_rfl) (by repeat (first | exact retQ_p | apply seqQ_p | apply blkQ_p | apply rndQ_p | apply cutQ_p)) ⟨hKz5.k2, hKz5.k3, hKz5.k4, hKz5.k6⟩ ?_
  apply Qst_guard_t
  focus rfl
  focus rfl
  apply Qst_loadA
  focus rfl
  focus rfl
  focus rfl
  focus rfl
  focus rfl
  focus exact fun A9 hA9 => hA9.2.1
  focus (repeat constructor)
  focus rfl
  (refine Qb ?_)
  refine S_takeV 38 27 rfl (by kernel_rfl) (by repeat (first | exact retQ_p | apply seqQ_p | apply blkQ_p | apply rndQ_p | apply cutQ_p)) ⟨hKz5.k2, hKz5.k3, hKz5.k4, hKz5.k6⟩ ?_
  apply Qst_guard_t
  focus rfl
  focus rfl
  apply Qst_loadA
  focus rfl
  focus rfl
  focus rfl
  focus rfl
  focus rfl
  focus exact fun A9 hA9 => hA9.1
  focus (repeat constructor)
  focus rfl
  (refine Qb ?_)
  refine S_any [36] 26 rfl (by kernel_rfl) (all1 ?_)
  (refine Gt ?_)
  (apply Lst_call; (focus rfl); (focus rfl))
  refine (c_id 9 1 _).mono ?_
  rintro v Wz6 ⟨rfl, hbz6⟩
  have hKz6 := hKz5.below hbz6
  clear hKz5 hbz6
  unfold idv idcs
  apply Lst_nil
  apply rnQ_n
  refine ⟨⟨hKz6.k2, hKz6.k3, hKz6.k4, hKz6.k6⟩, ?_⟩
  refine S_takeV 39 25 rfl (by kernel_rfl) (by repeat (first | exact retQ_p | apply seqQ_p | apply blkQ_p | apply rndQ_p | apply cutQ_p)) ⟨hKz6.k2, hKz6.k3, hKz6.k4, hKz6.k6⟩ ?_
  apply Qst_guard_t
  focus rfl
  focus rfl
  (refine Qb ?_)
  refine S_any [40] 24 rfl (by kernel_rfl) (all1 ?_)
  (refine Gt ?_)
  (apply Lst_call; (focus rfl); (focus rfl))
  refine (c_Insert kE p _ kT4 _ (by decide) hKz6.at').mono ?_
  rintro v Wz7 ⟨rfl, Fz7, hSz7, hTz7⟩
  have hKz7 : KX w Wz7 p b2 b3 b4 b6 (1, 1) (1, 2) (2, 1) kT4 Fz7 := hKz6.turn (by unfold Fo.insert at hSz7; rw [m6] at hSz7; exact hSz7) hTz7
  rw [m6]
  clear hKz6 hSz7 hTz7
  apply Lst_nil
  apply rnQ_n
  refine ⟨⟨hKz7.k2, hKz7.k3, hKz7.k4, hKz7.k6⟩, ?_⟩
  refine S_takeV 41 23 rfl (by kernel_rfl) (by repeat (first | exact retQ_p | apply seqQ_p | apply blkQ_p | apply rndQ_p | apply cutQ_p)) ⟨hKz7.k2, hKz7.k3, hKz7.k4, hKz7.k6⟩ ?_
  apply Qst_guard_t
  focus rfl
  focus rfl
  (refine Qb ?_)
  refine S_takeV 42 22 rfl (by kernel_rfl) (by repeat (first | exact retQ_p | apply seqQ_p | apply blkQ_p | apply rndQ_p | apply cutQ_p)) ⟨hKz7.k2, hKz7.k3, hKz7.k4, hKz7.k6⟩ ?_
  (refine Qb ?_)
  refine S_takeV 43 21 rfl (by kernel_rfl) (by repeat (first | exact retQ_p | apply seqQ_p | apply blkQ_p | apply rndQ_p | apply cutQ_p)) ⟨hKz7.k2, hKz7.k3, hKz7.k4, hKz7.k6⟩ ?_
  (refine Qb ?_)
  refine S_takeV 44 20 rfl (by kernel_rfl) (by repeat (first | exact retQ_p | apply seqQ_p | apply blkQ_p | apply rndQ_p | apply cutQ_p)) ⟨hKz7.k2, hKz7.k3, hKz7.k4, hKz7.k6⟩ ?_
  apply Qst_guard_t
  focus rfl
  focus rfl
  (refine Qb ?_)
  refine S_any [45] 19 rfl (by kernel_rfl) (all1 ?_)
  (refine Gt ?_)
  (apply Lst_call; (focus rfl); (focus rfl))
  refine (c_id 9 1 _).mono ?_
  rintro v Wz8 ⟨rfl, hbz8⟩
  have hKz8 := hKz7.below hbz8
  clear hKz7 hbz8
  unfold idv idcs
  apply Lst_nil
  apply rnQ_n
  refine ⟨⟨hKz8.k2, hKz8.k3, hKz8.k4, hKz8.k6⟩, ?_⟩
  refine S_any [46] 18 rfl (by kernel_rfl) (all1 ?_)
  (refine Gt ?_)
  (apply Lst_call; (focus rfl); (focus rfl))
  refine (c_id 8 8 _).mono ?_
  rintro v Wz9 ⟨rfl, hbz9⟩
  have hKz9 := hKz8.below hbz9
  clear hKz8 hbz9
  unfold idv idcs
  apply Lst_nil
  apply rnQ_n
  refine ⟨⟨hKz9.k2, hKz9.k3, hKz9.k4, hKz9.k6⟩, ?_⟩
  refine S_takeV 47 17 rfl (by kernel_rfl) (by repeat (first | exact retQ_p | apply seqQ_p | apply blkQ_p | apply rndQ_p | apply cutQ_p)) ⟨hKz9.k2, hKz9.k3, hKz9.k4, hKz9.k6⟩ ?_
  apply Qst_guard_t
  focus rfl
  focus rfl
  (refine Qb ?_)
  refine S_any [48] 16 rfl (by kernel_rfl) (all1 ?_)
  (refine Gt ?_)
  (apply Lst_call; (focus rfl); (focus rfl))
  refine (c_Insert kG p _ kT4 _ (by decide) hKz9.at').mono ?_
  rintro v Wz10 ⟨rfl, Fz10, hSz10, hTz10⟩
  have hKz10 : KX w Wz10 p b2 b3 b4 b6 (1, 1) (1, 2) (2, 1) kT4 Fz10 := hKz9.turn (by unfold Fo.insert at hSz10; rw [m7] at hSz10; exact hSz10) hTz10
  rw [m7]
  clear hKz9 hSz10 hTz10
  apply Lst_nil
  apply rnQ_n
  refine ⟨⟨hKz10.k2, hKz10.k3, hKz10.k4, hKz10.k6⟩, ?_⟩
  refine S_takeV 49 15 rfl (by kernel_rfl) (by repeat (first | exact retQ_p | apply seqQ_p | apply blkQ_p | apply rndQ_p | apply cutQ_p)) ⟨hKz10.k2, hKz10.k3, hKz10.k4, hKz10.k6⟩ ?_
  apply Qst_guard_t
  focus rfl
  focus rfl
  (refine Qb ?_)
  refine S_takeV 50 14 rfl (by kernel_rfl) (by repeat (first | exact retQ_p | apply seqQ_p | apply blkQ_p | apply rndQ_p | apply cutQ_p)) ⟨hKz10.k2, hKz10.k3, hKz10.k4, hKz10.k6⟩ ?_
  (refine Qb ?_)
  refine S_takeV 51 13 rfl (by kernel_rfl) (by repeat (first | exact retQ_p | apply seqQ_p | apply blkQ_p | apply rndQ_p | apply cutQ_p)) ⟨hKz10.k2, hKz10.k3, hKz10.k4, hKz10.k6⟩ ?_
  (refine Qb ?_)
  refine S_takeV 52 12 rfl (by kernel_rfl) (by repeat (first | exact retQ_p | apply seqQ_p | apply blkQ_p | apply rndQ_p | apply cutQ_p)) ⟨hKz10.k2, hKz10.k3, hKz10.k4, hKz10.k6⟩ ?_
  apply Qst_guard_t
  focus rfl
  focus rfl
  (refine Qb ?_)
  refine S_takeV 54 11 rfl (by kernel_rfl) (by repeat (first | exact retQ_p | apply seqQ_p | apply blkQ_p | apply rndQ_p | apply cutQ_p)) ⟨hKz10.k2, hKz10.k3, hKz10.k4, hKz10.k6⟩ ?_
  apply Qst_guard_t
  focus rfl
  focus rfl
  apply Qst_loadA
  focus rfl
  focus rfl
  focus rfl
  focus rfl
  focus rfl
  focus exact fun A9 hA9 => hA9.2.1
  focus (repeat constructor)
  focus rfl
  (refine Qb ?_)
  refine S_any [53] 10 rfl (by kernel_rfl) (all1 ?_)
  (refine Gt ?_)
  (apply Lst_call; (focus rfl); (focus rfl))
  refine (c_id 9 1 _).mono ?_
  rintro v Wz11 ⟨rfl, hbz11⟩
  have hKz11 := hKz10.below hbz11
  clear hKz10 hbz11
  unfold idv idcs
  apply Lst_nil
  apply rnQ_n
  refine ⟨⟨hKz11.k2, hKz11.k3, hKz11.k4, hKz11.k6⟩, ?_⟩
  refine S_takeV 55 9 rfl (by kernel_rfl) (by repeat (first | exact retQ_p | apply seqQ_p | apply blkQ_p | apply rndQ_p | apply cutQ_p)) ⟨hKz11.k2, hKz11.k3, hKz11.k4, hKz11.k6⟩ ?_
  apply Qst_guard_t
  focus rfl
  focus rfl
  (refine Qb ?_)
  refine S_any [56] 8 rfl (by kernel_rfl) (all1 ?_)
  (refine Gt ?_)
  (apply Lst_call; (focus rfl); (focus rfl))
  refine (c_Run kH 3 p _ kT4 _ (by decide) (by decide) hKz11.at').mono ?_
  rintro v Wz12 ⟨rfl, Fz12, hSz12, hTz12⟩
  have hKz12 := hKz11.turn hSz12 hTz12
  rw [r8]
  clear hKz11 hSz12 hTz12
  apply Lst_nil
  apply rnQ_n
  refine ⟨⟨hKz12.k2, hKz12.k3, hKz12.k4, hKz12.k6⟩, ?_⟩
  refine S_takeV 57 7 rfl (by kernel_rfl) (by repeat (first | exact retQ_p | apply seqQ_p | apply blkQ_p | apply rndQ_p | apply cutQ_p)) ⟨hKz12.k2, hKz12.k3, hKz12.k4, hKz12.k6⟩ ?_
  (refine Qb ?_)
  refine S_takeV 58 6 rfl (by kernel_rfl) (by repeat (first | exact retQ_p | apply seqQ_p | apply blkQ_p | apply rndQ_p | apply cutQ_p)) ⟨hKz12.k2, hKz12.k3, hKz12.k4, hKz12.k6⟩ ?_
  (refine Qb ?_)
  refine S_takeV 59 5 rfl (by kernel_rfl) (by repeat (first | exact retQ_p | apply seqQ_p | apply blkQ_p | apply rndQ_p | apply cutQ_p)) ⟨hKz12.k2, hKz12.k3, hKz12.k4, hKz12.k6⟩ ?_
  apply Qst_guard_t
  focus rfl
  focus rfl
  (refine Qb ?_)
  refine S_any [60] 4 rfl (by kernel_rfl) (all1 ?_)
  (refine Gt ?_)
  (apply Lst_call; (focus rfl); (focus rfl))
  refine (c_id 9 3 _).mono ?_
  rintro v Wz13 ⟨rfl, hbz13⟩
  have hKz13 := hKz12.below hbz13
  clear hKz12 hbz13
  unfold idv idcs
  apply Lst_nil
  apply rnQ_n
  refine ⟨⟨hKz13.k2, hKz13.k3, hKz13.k4, hKz13.k6⟩, ?_⟩
  refine S_any [61] 3 rfl (by kernel_rfl) (all1 ?_)
  (refine Gt ?_)
  (apply Lst_call; (focus rfl); (focus rfl))
  refine (s_Find (9, 3) (by rw [f9.2.2]; decide) hKz13.at').mono ?_
  rintro v Wz14 ⟨rfl, hSz14, hTz14⟩
  have hKz14 := hKz13.turn hSz14 hTz14
  rw [if_pos f9.1, f9.2.1]
  clear hKz13 hSz14 hTz14
  apply Lst_nil
  apply rnQ_n
  refine ⟨⟨hKz14.k2, hKz14.k3, hKz14.k4, hKz14.k6⟩, ?_⟩
  refine S_takeV 62 2 rfl (by kernel_rfl) (by repeat (first | exact retQ_p | apply seqQ_p | apply blkQ_p | apply rndQ_p | apply cutQ_p)) ⟨hKz14.k2, hKz14.k3, hKz14.k4, hKz14.k6⟩ ?_
  apply Qst_guard_t
  focus rfl
  focus rfl
  (refine Qb ?_)
  refine S_takeV 63 1 rfl (by kernel_rfl) (by repeat (first | exact retQ_p | apply seqQ_p | apply blkQ_p | apply rndQ_p | apply cutQ_p)) ⟨hKz14.k2, hKz14.k3, hKz14.k4, hKz14.k6⟩ ?_
  (refine Qb ?_)
  refine S_takeV 64 0 rfl (by kernel_rfl) (by repeat (first | exact retQ_p | apply seqQ_p | apply blkQ_p | apply rndQ_p | apply cutQ_p)) ⟨hKz14.k2, hKz14.k3, hKz14.k4, hKz14.k6⟩ ?_
  (refine Qb ?_)
  refine S_done (by kernel_rfl) ?_
  (refine Ga ?_)
  (apply retQ1; (focus rfl))
  exact ⟨rfl, hKz14.bel⟩
end Sq
end Go.Proofs.Ytmammcgdjjldbaa
