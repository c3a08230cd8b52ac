/- Marks: operations in memory; the places of anchors and marks; which mark wins. -/
import Derived.Test.YtmgipnckojopcaaGreatPcJSqVToSqT
import Derived.Test.YtmgipnckojopcaaGreatPcJSqRfToSqRh
import Derived.Test.YtmgipnckojopcaaGreatPcJPlaceToSqW
namespace Go.Proofs.YtmgipnckojopcaaGreat
set_option maxRecDepth 100000
namespace Mk
open Go Go.RowKit Sx Tl Sq Val
abbrev Id := Sq.Id
/-- An anchor. -/
structure Anc where
  id : Id
  after : Bool
deriving DecidableEq
/-- An operation. -/
structure Mo where
  id : Id
  k : Int
  st : Nat
  l : Id
  r : Id
  tx : ByteArray
  v : Vl
  key : ByteArray
  par : Id
  fr : Anc
  to : Anc
def acs (a : Anc) : List Value := [.int .u64 (a.id.1 : Int), .int .u64 (a.id.2 : Int), .bool a.after]
def ocs (o : Mo) : List Value := [.int .u64 (o.id.1 : Int), .int .u64 (o.id.2 : Int), .int .i64 o.k, .int .u64 (o.st : Int), .int .u64 (o.l.1 : Int), .int .u64 (o.l.2 : Int), .int .u64 (o.r.1 : Int), .int .u64 (o.r.2 : Int), .string o.tx, .int .i64 o.v.k, .int .i64 o.v.n, .float .f64 o.v.f, .string o.v.s, .string o.key, .int .u64 (o.par.1 : Int), .int .u64 (o.par.2 : Int),
  .int .u64 (o.fr.id.1 : Int), .int .u64 (o.fr.id.2 : Int), .bool o.fr.after, .int .u64 (o.to.id.1 : Int), .int .u64 (o.to.id.2 : Int), .bool o.to.after]
/-- How many units stand ahead of an anchor's place. -/
def gapV (t : Fo) (a : Anc) : Nat × Bool :=
  if a.id = Fo.none' then (if a.after then t.sz else 0, true) else if a.id ∈ t.ids then (t.pos a.id + (if a.after then 1 else 0), true) else (0, false)
/-- The places that a mark is over. -/
def overV (t : Fo) (a b : Anc) : Nat × Nat :=
  if (gapV t a).2 = true ∧ (gapV t b).2 = true ∧ (gapV t a).1 < (gapV t b).1 then ((gapV t a).1, (gapV t b).1) else (0, 0)
def mless (a b : Mo) : Bool := decide (a.st < b.st) || (decide (a.st = b.st) && Fo.lt a.id b.id)
theorem gap_le {t : Fo} {a : Anc} : (gapV t a).1 ≤ t.sz := by
  unfold gapV
  split
  · split <;> dsimp only <;> omega
  · split
    · rename_i h
      have h1 : t.pos a.id < t.ids.length := List.idxOf_lt_length_of_mem h
      rw [Fo.ids_len] at h1
      dsimp only
      split <;> omega
    · dsimp only
      omega
variable {w : World} {p : Nat} {F : Nat → Prop} {t : Fo}
theorem id_t {k : Id} (h : k = Fo.none') : Eqv Tryz.prog 3 40 (idv k) (idv (0, 0)) true := by
  have := id_eq k (0, 0)
  rwa [decide_eq_true (show k = (0, 0) from h)] at this
theorem id_f {k : Id} (h : k ≠ Fo.none') : Eqv Tryz.prog 3 40 (idv k) (idv (0, 0)) false := by
  have := id_eq k (0, 0)
  rwa [decide_eq_false (show ¬ k = (0, 0) from h)] at this
attribute [local irreducible] W Lst Qst Pu seqQ blkQ rndQ cutQ retQ Does Enters IntKind.wrap bits sb World.alloc World.putObj Blk
set_option maxHeartbeats 1000000 in
theorem c_Gap (a : Anc) (hs : t.sz ≤ 1000000000 - 1) (h : SqAt w p F t) : Does Tryz.prog 21 #[.pointer (some ⟨p, 0, none⟩), .agg (acs a).toArray] w fun v w' => v = .tuple #[.int .i64 ((gapV t a).1 : Int), .bool (gapV t a).2] ∧ SqAt w' p F t ∧ Turn F F w w' := by
  refine Does_of (args := [.pointer (some ⟨p, 0, none⟩), .agg (acs a).toArray]) Tryz.func21 (by kernel_rfl) rfl rfl rfl rfl rfl ?_
  (refine Ga ?_)
  obtain ⟨X, hXe⟩ : ∃ X, w.alloc (.cells (acs a).toArray 45) = X := ⟨_, rfl⟩
  have hbX : Below w.heap.size w X := by rw [← hXe]; exact Bel
  have kX : Blk X w.heap.size (acs a) 45 := by rw [← hXe]; exact (by (repeat (first | assumption | (apply Blk.below (hb := hb1); rotate_left; (focus ((try simp only [Sx.sizes]); omega)); rotate_right) | (apply Blk.below (hb := hb2); rotate_left; (focus ((try simp only [Sx.sizes]); omega)); rotate_right) | (apply Blk.below (hb := hb3); rotate_left; (focus ((try simp only [Sx.sizes]); omega)); rotate_right) | (apply Blk.below (hb := hb4); rotate_left; (focus ((try simp only [Sx.sizes]); omega)); rotate_right) | (apply Blk.below (hb := hb5); rotate_left; (focus ((try simp only [Sx.sizes]); omega)); rotate_right) | (apply Blk.below (hb := hb6); rotate_left; (focus ((try simp only [Sx.sizes]); omega)); rotate_right) | (apply Blk.below (hb := hb7); rotate_left; (focus ((try simp only [Sx.sizes]); omega)); rotate_right) | (apply Blk.below (hb := hb8); rotate_left; (focus ((try simp only [Sx.sizes]); omega)); rotate_right) | (apply Blk.below (hb := hb9); rotate_left; (focus ((try simp only [Sx.sizes]); omega)); rotate_right) | exact Blk.newE (by first | rfl | ((try simp only [Sx.sizes]); first | done | omega)) _ _ | exact Blk.put_same (by (try simp only [Sx.sizes]); first | done | omega) _ _ | (apply Blk.put_ne; (focus omega)) | apply Blk.alloc | apply Blk.drew)); done)
  rw [hXe]
  clear hXe
  have hX := h.below hbX
  have hTX : Turn F F w X := .of hbX
  have hnF : ¬ F w.heap.size := fun hf => by have := h.lt hf; omega
  have hgn := h.good
  obtain ⟨b, hbe⟩ : ∃ b, w.heap.size = b := ⟨_, rfl⟩
  rw [hbe] at kX
  have lX := kX.lt
  have kX' := kX
  unfold acs at kX
  rw [hbe] at hnF
  rw [hbe]
  (refine Ga ?_)
  by_cases h1 : a.id = Fo.none'
  · have e1 : gapV t a = (if a.after then t.sz else 0, true) := if_pos h1
    apply Lst_pu
    · apply P_eqA
      focus rfl
      focus rfl
      focus kernel_rfl
      focus exact id_t h1
      focus rfl
    focus rfl
    (refine Ga ?_)
    cases ha : a.after with
    | false =>
      rw [ha] at kX e1
      (refine Ga ?_)
      (apply retQ2; (focus rfl); (focus rfl))
      exact ⟨by rw [e1]; rfl, hX, hTX⟩
    | true =>
      rw [ha] at kX e1
      (refine Ga ?_)
      (apply Lst_call; (focus rfl); (focus rfl))
      refine (s_Len hX).mono ?_
      rintro v w' ⟨rfl, rfl⟩
      (refine Ga ?_)
      (apply retQ2; (focus rfl); (focus rfl))
      exact ⟨by rw [e1]; rfl, hX, hTX⟩
  · apply Lst_pu
    · apply P_eqA
      focus rfl
      focus rfl
      focus kernel_rfl
      focus exact id_f h1
      focus rfl
    focus rfl
    (refine Ga ?_)
    (apply Lst_call; (focus rfl); (focus rfl))
    refine (s_Find a.id (by omega) hX).mono ?_
    rintro v Y ⟨rfl, hSY, hTY⟩
    have kY := hTY.blk kX' hnF
    have hTw := hTX.trans hTY
    have lY := kY.lt
    unfold acs at kY
    by_cases h2 : a.id ∈ t.ids
    · have hps : t.pos a.id < t.sz := by
        have h3 : t.pos a.id < t.ids.length := List.idxOf_lt_length_of_mem h2
        rwa [Fo.ids_len] at h3
      have e1 : gapV t a = (t.pos a.id + (if a.after then 1 else 0), true) := by
        unfold gapV
        rw [if_neg h1, if_pos h2]
      rw [if_pos h2]
      cases ha : a.after with
      | false =>
        rw [ha] at kY e1
        (refine Ga ?_)
        (apply retQ2; (focus rfl); (focus rfl))
        exact ⟨by rw [e1]; rfl, hSY, hTw⟩
      | true =>
        rw [ha] at kY e1
        (refine Ga ?_)
        (apply retQ2; (focus rfl); (focus rfl))
        exact ⟨by rw [e1]; rfl, hSY, hTw⟩
    · have e1 : gapV t a = (0, false) := by
        unfold gapV
        rw [if_neg h1, if_neg h2]
      rw [if_neg h2]
      (refine Ga ?_)
      (apply retQ2; (focus rfl); (focus rfl))
      exact ⟨by rw [e1]; rfl, hSY, hTw⟩
set_option maxHeartbeats 1000000 in
theorem c_Over (o : Mo) (hs : t.sz ≤ 1000000000 - 1) (h : SqAt w p F t) : Does Tryz.prog 22 #[.pointer (some ⟨p, 0, none⟩), .agg (ocs o).toArray] w fun v w' => v = .tuple #[.int .i64 ((overV t o.fr o.to).1 : Int), .int .i64 ((overV t o.fr o.to).2 : Int)] ∧ SqAt w' p F t ∧ Turn F F w w' := by
  refine Does_of (args := [.pointer (some ⟨p, 0, none⟩), .agg (ocs o).toArray]) Tryz.func22 (by kernel_rfl) rfl rfl rfl rfl rfl ?_
  (refine Ga ?_)
  obtain ⟨X, hXe⟩ : ∃ X, w.alloc (.cells (ocs o).toArray 47) = X := ⟨_, rfl⟩
  have hbX : Below w.heap.size w X := by rw [← hXe]; exact Bel
  have kX : Blk X w.heap.size (ocs o) 47 := by rw [← hXe]; exact (by (repeat (first | assumption | (apply Blk.below (hb := hb1); rotate_left; (focus ((try simp only [Sx.sizes]); omega)); rotate_right) | (apply Blk.below (hb := hb2); rotate_left; (focus ((try simp only [Sx.sizes]); omega)); rotate_right) | (apply Blk.below (hb := hb3); rotate_left; (focus ((try simp only [Sx.sizes]); omega)); rotate_right) | (apply Blk.below (hb := hb4); rotate_left; (focus ((try simp only [Sx.sizes]); omega)); rotate_right) | (apply Blk.below (hb := hb5); rotate_left; (focus ((try simp only [Sx.sizes]); omega)); rotate_right) | (apply Blk.below (hb := hb6); rotate_left; (focus ((try simp only [Sx.sizes]); omega)); rotate_right) | (apply Blk.below (hb := hb7); rotate_left; (focus ((try simp only [Sx.sizes]); omega)); rotate_right) | (apply Blk.below (hb := hb8); rotate_left; (focus ((try simp only [Sx.sizes]); omega)); rotate_right) | (apply Blk.below (hb := hb9); rotate_left; (focus ((try simp only [Sx.sizes]); omega)); rotate_right) | exact Blk.newE (by first | rfl | ((try simp only [Sx.sizes]); first | done | omega)) _ _ | exact Blk.put_same (by (try simp only [Sx.sizes]); first | done | omega) _ _ | (apply Blk.put_ne; (focus omega)) | apply Blk.alloc | apply Blk.drew)); done)
  rw [hXe]
  clear hXe
  have hX := h.below hbX
  have hTX : Turn F F w X := .of hbX
  have hnF : ¬ F w.heap.size := fun hf => by have := h.lt hf; omega
  obtain ⟨b, hbe⟩ : ∃ b, w.heap.size = b := ⟨_, rfl⟩
  rw [hbe] at kX
  have lX := kX.lt
  have kX' := kX
  unfold ocs at kX
  rw [hbe] at hnF
  rw [hbe]
  (refine Ga ?_)
  (apply Lst_call; (focus rfl); (focus rfl))
  refine (c_Gap o.fr hs hX).mono ?_
  rintro v Y ⟨rfl, hSY, hTY⟩
  have kY := hTY.blk kX' hnF
  have hTw := hTX.trans hTY
  have lY := kY.lt
  unfold ocs at kY
  (refine Ga ?_)
  (apply Lst_call; (focus rfl); (focus rfl))
  refine (c_Gap o.to hs hSY).mono ?_
  rintro v Z ⟨rfl, hSZ, hTZ⟩
  have hTz := hTw.trans hTZ
  have l1 := gap_le (t := t) (a := o.fr)
  have l2 := gap_le (t := t) (a := o.to)
  unfold overV
  obtain ⟨f, hf⟩ : ∃ f, gapV t o.fr = f := ⟨_, rfl⟩
  obtain ⟨g, hg⟩ : ∃ g, gapV t o.to = g := ⟨_, rfl⟩
  rw [hf] at l1
  rw [hg] at l2
  rw [hf, hg]
  obtain ⟨f1, f2⟩ := f
  obtain ⟨g1, g2⟩ := g
  dsimp only at l1 l2 ⊢
  clear kX kX' kY
  cases f2 with
  | false =>
    (refine Ga ?_)
    (apply retQ2; (focus rfl); (focus rfl))
    exact ⟨rfl, hSZ, hTz⟩
  | true =>
    cases g2 with
    | false =>
      (refine Ga ?_)
      (apply retQ2; (focus rfl); (focus rfl))
      exact ⟨rfl, hSZ, hTz⟩
    | true =>
      by_cases hlt : f1 < g1
      · (refine Ga ?_)
        (apply retQ2; (focus rfl); (focus rfl))
        rw [if_pos ⟨rfl, rfl, hlt⟩]
        exact ⟨rfl, hSZ, hTz⟩
      · (refine Ga ?_)
        (apply retQ2; (focus rfl); (focus rfl))
        rw [if_neg fun h => hlt h.2.2]
        exact ⟨rfl, hSZ, hTz⟩
set_option maxHeartbeats 1000000 in
theorem c_MLess (a b : Mo) (w : World) : Does Tryz.prog 23 #[.agg (ocs a).toArray, .agg (ocs b).toArray] w fun v w' => v = .bool (mless a b) ∧ Below w.heap.size w w' := by
  refine Does_of (args := [.agg (ocs a).toArray, .agg (ocs b).toArray]) Tryz.func23 (by kernel_rfl) rfl rfl rfl rfl rfl ?_
  (refine Ga ?_)
  obtain ⟨X, hXe⟩ : ∃ X, (w.alloc (.cells (ocs a).toArray 47)).alloc (.cells (ocs b).toArray 47) = X := ⟨_, rfl⟩
  have hbX : Below w.heap.size w X := by rw [← hXe]; exact Bel
  have kA : Blk X w.heap.size (ocs a) 47 := by rw [← hXe]; exact (by (repeat (first | assumption | (apply Blk.below (hb := hb1); rotate_left; (focus ((try simp only [Sx.sizes]); omega)); rotate_right) | (apply Blk.below (hb := hb2); rotate_left; (focus ((try simp only [Sx.sizes]); omega)); rotate_right) | (apply Blk.below (hb := hb3); rotate_left; (focus ((try simp only [Sx.sizes]); omega)); rotate_right) | (apply Blk.below (hb := hb4); rotate_left; (focus ((try simp only [Sx.sizes]); omega)); rotate_right) | (apply Blk.below (hb := hb5); rotate_left; (focus ((try simp only [Sx.sizes]); omega)); rotate_right) | (apply Blk.below (hb := hb6); rotate_left; (focus ((try simp only [Sx.sizes]); omega)); rotate_right) | (apply Blk.below (hb := hb7); rotate_left; (focus ((try simp only [Sx.sizes]); omega)); rotate_right) | (apply Blk.below (hb := hb8); rotate_left; (focus ((try simp only [Sx.sizes]); omega)); rotate_right) | (apply Blk.below (hb := hb9); rotate_left; (focus ((try simp only [Sx.sizes]); omega)); rotate_right) | exact Blk.newE (by first | rfl | ((try simp only [Sx.sizes]); first | done | omega)) _ _ | exact Blk.put_same (by (try simp only [Sx.sizes]); first | done | omega) _ _ | (apply Blk.put_ne; (focus omega)) | apply Blk.alloc | apply Blk.drew)); done)
  have kB : Blk X (w.heap.size + 1) (ocs b) 47 := by rw [← hXe]; exact (by (repeat (first | assumption | (apply Blk.below (hb := hb1); rotate_left; (focus ((try simp only [Sx.sizes]); omega)); rotate_right) | (apply Blk.below (hb := hb2); rotate_left; (focus ((try simp only [Sx.sizes]); omega)); rotate_right) | (apply Blk.below (hb := hb3); rotate_left; (focus ((try simp only [Sx.sizes]); omega)); rotate_right) | (apply Blk.below (hb := hb4); rotate_left; (focus ((try simp only [Sx.sizes]); omega)); rotate_right) | (apply Blk.below (hb := hb5); rotate_left; (focus ((try simp only [Sx.sizes]); omega)); rotate_right) | (apply Blk.below (hb := hb6); rotate_left; (focus ((try simp only [Sx.sizes]); omega)); rotate_right) | (apply Blk.below (hb := hb7); rotate_left; (focus ((try simp only [Sx.sizes]); omega)); rotate_right) | (apply Blk.below (hb := hb8); rotate_left; (focus ((try simp only [Sx.sizes]); omega)); rotate_right) | (apply Blk.below (hb := hb9); rotate_left; (focus ((try simp only [Sx.sizes]); omega)); rotate_right) | exact Blk.newE (by first | rfl | ((try simp only [Sx.sizes]); first | done | omega)) _ _ | exact Blk.put_same (by (try simp only [Sx.sizes]); first | done | omega) _ _ | (apply Blk.put_ne; (focus omega)) | apply Blk.alloc | apply Blk.drew)); done)
  rw [hXe]
  clear hXe
  generalize hbe : w.heap.size = b0 at *
  have lA := kA.lt
  have lB := kB.lt
  unfold ocs at kA kB
  unfold mless
  by_cases h1 : a.st < b.st
  · have e1 : decide (a.st < b.st) = true := decide_eq_true h1
    rw [e1]
    (refine Ga ?_)
    (apply retQ1; (focus rfl))
    exact ⟨rfl, hbX⟩
  · have e1 : decide (a.st < b.st) = false := decide_eq_false h1
    rw [e1]
    by_cases h2 : a.st = b.st
    · have e2 : decide (a.st = b.st) = true := decide_eq_true h2
      rw [e2]
      (refine Ga ?_)
      (apply Lst_call; (focus rfl); (focus rfl))
      refine (n_Less a.id b.id X).mono ?_
      rintro v Y ⟨rfl, hbY⟩
      (refine Ga ?_)
      (apply retQ1; (focus rfl))
      exact ⟨rfl, hbX.trans (hbY.mono (hbe ▸ hbX.size))⟩
    · have e2 : decide (a.st = b.st) = false := decide_eq_false h2
      rw [e2]
      (refine Ga ?_)
      (apply retQ1; (focus rfl))
      exact ⟨rfl, hbX⟩
end Mk
end Go.Proofs.YtmgipnckojopcaaGreat
