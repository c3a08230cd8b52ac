/- SeqLong. -/
import Derived.Test.YtmammcgdjjldbaaSqQ
import Derived.Test.YtmammcgdjjldbaaPlace
namespace Go.Proofs.Ytmammcgdjjldbaa
set_option maxRecDepth 100000
namespace Sq
open Go Go.RowKit Sx Tl
/-- So many units, forwards or backwards. -/
def lo (back : Bool) : Nat → Fo
  | 0 => .nil
  | m + 1 => if back then bw 0 m else fw 0 m
def lu (back : Bool) (i : Nat) : Un := if back then bu i else fu i
theorem lo_sz (back : Bool) (m : Nat) : (lo back m).sz = m := by
  cases m with
  | zero => rfl
  | succ m => cases back with
    | true => exact bw_sz m
    | false => exact fw_sz m
theorem lo_next (back : Bool) (m : Nat) (hm : m ≤ 1000000) : Fo.may (lo back m) (lu back m) = true ∧ (Fo.insert (lo back m) (lu back m)).1 = lo back (m + 1) := by
  have key : Fo.may (lo back m) (lu back m) = true ∧ Fo.put (lo back m) (lu back m) = lo back (m + 1) := by
    cases m with
    | zero => cases back <;> exact ⟨by decide, rfl⟩
    | succ m => cases back with
      | true => exact ⟨bw_may (by omega), bw_put m⟩
      | false => exact ⟨fw_may (by omega), fw_put m⟩
  refine ⟨key.1, ?_⟩
  unfold Fo.insert
  rw [key.1, if_pos rfl]
  exact key.2
def la (i : Nat) : Id := if i = 0 then (0, 0) else (1, i)
theorem lu_true (i : Nat) : ucs (lu true i) = [.int .u64 (((1, i + 1) : Id).1 : Int), .int .u64 (((1, i + 1) : Id).2 : Int), .int .u64 0, .int .u64 0, .int .u64 ((la i).1 : Int), .int .u64 ((la i).2 : Int)] := by unfold lu bu la; rw [if_pos rfl]; rfl
theorem lu_false (i : Nat) : ucs (lu false i) = [.int .u64 (((1, i + 1) : Id).1 : Int), .int .u64 (((1, i + 1) : Id).2 : Int), .int .u64 ((la i).1 : Int), .int .u64 ((la i).2 : Int), .int .u64 0, .int .u64 0] := by unfold lu fu la; rw [if_neg (by simp)]; rfl
theorem SqAt.put {w : World} {p : Nat} {F : Nat → Prop} {t : Fo} (h : SqAt w p F t) {b : Nat} (hb : ¬ F b) (o : Obj) : SqAt (w.putObj b o) p F t :=
  h.kept rfl rfl rfl (by rw [World.putObj_size]; exact Nat.le_refl _) fun g hg => World.putObj_heap_other (fun e => hb (e ▸ hg))
theorem step_arith {k m : Nat} (hk : k ≤ m) (hm : m < 1500) : arith BinOp.add IntKind.i64 ((k : Int) + 1) (arith BinOp.add IntKind.i64 1 (IntKind.i64.wrap ((1 + (m : Int)).tdiv 20))) = ((k + 1 + (1 + m) / 20 : Nat) : Int) + 1 := by
  have hq : (1 + (m : Int)).tdiv 20 = (((1 + m) / 20 : Nat) : Int) := by
    have e : (1 + (m : Int)) = ((1 + m : Nat) : Int) := by omega
    rw [e]
    rfl
  have hd : (1 + m) / 20 ≤ 100 := by omega
  rw [hq, wi64 (by omega) (by omega)]
  show IntKind.i64.wrap ((k : Int) + 1 + IntKind.i64.wrap (1 + (((1 + m) / 20 : Nat) : Int))) = _
  have h1 : IntKind.i64.wrap (1 + (((1 + m) / 20 : Nat) : Int)) = 1 + (((1 + m) / 20 : Nat) : Int) := wi64 (by omega) (by omega)
  rw [h1]
  have h2 : IntKind.i64.wrap ((k : Int) + 1 + (1 + (((1 + m) / 20 : Nat) : Int))) = (k : Int) + 1 + (1 + (((1 + m) / 20 : Nat) : Int)) := wi64 (by omega) (by omega)
  rw [h2]
  omega
/-- What the first loop keeps. -/
structure LI (w : World) (p b6 : Nat) (back : Bool) (m : Nat) (i : Nat) (F : Nat → Prop) (A : World) : Prop where
  im : i ≤ m + 1
  at' : SqAt A p F (lo back i)
  low : ∀ g, F g → w.heap.size ≤ g
  bel : Below w.heap.size w A
  k6 : Blk A b6 (idcs (la i)) 32
  n6 : ¬ F b6
  hb6 : w.heap.size ≤ b6
attribute [local irreducible] W Lst Qst Pu seqQ blkQ rndQ cutQ retQ Does Enters IntKind.wrap bits sb World.alloc World.putObj Blk
theorem law_SeqLong (n : Int) (back : Bool) (w : World) : Does Try.prog 8 #[.int .i64 n, .bool back] w fun v w' => v = .bool true ∧ Below w.heap.size w w' := by
  refine Does_of (args := [.int .i64 n, .bool back]) Try.func8 (by kernel_rfl) rfl rfl rfl rfl rfl ?_
  (refine Ga ?_)
  (apply Lst_call; (focus rfl); (focus rfl))
  refine (c_known w).mono ?_
  rintro v w1 ⟨rfl, hb1⟩
  (refine Ga ?_)
  (apply Lst_call; (focus rfl); (focus rfl))
  refine (Wire.h_Place n 1500 w1 (by decide) (by decide)).mono ?_
  rintro v w2 ⟨rfl, rfl⟩
  obtain ⟨m, hm⟩ : ∃ m : Nat, n % 1500 = m := ⟨(n % 1500).toNat, by omega⟩
  have hm2 : m < 1500 := by omega
  rw [hm]
  (refine Ga ?_)
  (apply Lst_call; (focus rfl); (focus rfl))
  refine (c_New w1).mono ?_
  rintro v w2 ⟨p, F0, rfl, hS0, hlow, hb2⟩
  (refine Ga ?_)
  have hbw : Below w.heap.size w w2 := hb1.trans (hb2.mono hb1.size)
  obtain ⟨X, hXe⟩ : ∃ X, w2.alloc (.cells [.int .u64 0, .int .u64 0].toArray 32) = X := ⟨_, rfl⟩
  have hbX : Below w2.heap.size w2 X := by rw [← hXe]; exact Bel
  have kX : Blk X w2.heap.size (idcs (la 0)) 32 := by rw [← hXe]; show Blk _ _ [.int .u64 0, .int .u64 0] _; exact (by (repeat (first | assumption | (apply Blk.below (hb := hb1); rotate_left; (focus ((try simp only [Sx.sizes]); omega)); rotate_right) | (apply Blk.below (hb := hb2); rotate_left; (focus ((try simp only [Sx.sizes]); omega)); rotate_right) | (apply Blk.below (hb := hb3); rotate_left; (focus ((try simp only [Sx.sizes]); omega)); rotate_right) | (apply Blk.below (hb := hb4); rotate_left; (focus ((try simp only [Sx.sizes]); omega)); rotate_right) | (apply Blk.below (hb := hb5); rotate_left; (focus ((try simp only [Sx.sizes]); omega)); rotate_right) | (apply Blk.below (hb := hb6); rotate_left; (focus ((try simp only [Sx.sizes]); omega)); rotate_right) | (apply Blk.below (hb := hb7); rotate_left; (focus ((try simp only [Sx.sizes]); omega)); rotate_right) | (apply Blk.below (hb := hb8); rotate_left; (focus ((try simp only [Sx.sizes]); omega)); rotate_right) | (apply Blk.below (hb := hb9); rotate_left; (focus ((try simp only [Sx.sizes]); omega)); rotate_right) | exact Blk.newE (by first | rfl | ((try simp only [Sx.sizes]); first | done | omega)) _ _ | exact Blk.put_same (by (try simp only [Sx.sizes]); first | done | omega) _ _ | (apply Blk.put_ne; (focus omega)) | apply Blk.alloc | apply Blk.drew)); done)
  rw [hXe]
  clear hXe
  have h0 : LI w p w2.heap.size back m 0 F0 X := ⟨Nat.zero_le _, hS0.below hbX, fun g hg => Nat.le_trans hb1.size (hlow g hg), hbw.trans (hbX.mono hbw.size), kX, fun hf => by have := hS0.lt hf; omega, hbw.size⟩
  clear hS0 hlow hb1 hb2 hbw hbX kX
  generalize w2.heap.size = b6 at *
  refine W_cutB (α := Nat → Prop) (fun _ => [(0, .int .i64 (1 + (m : Int))), (1, .bool back), (5, .pointer (some ⟨p, 0, none⟩))]) (fun F A => LI w p b6 back m (m + 1) F A) ?_ ?_
  · refine W_loop (α := Nat × (Nat → Prop)) (fun y => [(0, .int .i64 (1 + (m : Int))), (1, .bool back), (5, .pointer (some ⟨p, 0, none⟩)), (6, .pointer (some ⟨b6, 0, none⟩)), (7, .int .i64 ((y.1 : Int) + 1))]) (fun y A => LI w p b6 back m y.1 y.2 A) (fun y _ => m + 1 - y.1) (0, F0) h0 ⟨rfl, rfl, rfl, rfl, rfl, trivial⟩ ?_
    rintro J ⟨i, F⟩ A hI
    dsimp only at hI ⊢
    by_cases hi : i < m + 1
    · (refine Ga ?_)
      (apply Lst_call; (focus rfl); (focus rfl))
      refine (c_id 1 (i + 1) A).mono ?_
      rintro v A2 ⟨rfl, hb⟩
      have hS2 := hI.at'.below hb
      have hbw2 := hI.bel.trans (hb.mono hI.bel.size)
      have k2 := hI.k6.below hb hI.k6.lt
      have l2 := k2.lt
      have hn6 := hI.n6
      have hlow := hI.low
      have hb6 := hI.hb6
      have hne : b6 ≠ A2.heap.size := by omega
      clear hI hb
      unfold idv idcs at *
      cases back with
      | true =>
        (refine Ga ?_)
        obtain ⟨X, hXe⟩ : ∃ X, ((A2.alloc (.cells [.int .u64 0, .int .u64 0, .int .u64 0, .int .u64 0, .int .u64 0, .int .u64 0].toArray 34)).putObj A2.heap.size (.cells [.int .u64 (((1, i + 1) : Id).1 : Int), .int .u64 (((1, i + 1) : Id).2 : Int), .int .u64 0, .int .u64 0, .int .u64 0, .int .u64 0].toArray 34)).putObj A2.heap.size (.cells [.int .u64 (((1, i + 1) : Id).1 : Int), .int .u64 (((1, i + 1) : Id).2 : Int), .int .u64 0, .int .u64 0, .int .u64 ((la i).1 : Int), .int .u64 ((la i).2 : Int)].toArray 34) = X := ⟨_, rfl⟩
        have hbX : Below A2.heap.size A2 X := by rw [← hXe]; exact Bel
        have k8 : Blk X A2.heap.size (ucs (lu true i)) 34 := by
          rw [lu_true]
          rw [← hXe]
          exact (by (repeat (first | assumption | (apply Blk.below (hb := hb1); rotate_left; (focus ((try simp only [Sx.sizes]); omega)); rotate_right) | (apply Blk.below (hb := hb2); rotate_left; (focus ((try simp only [Sx.sizes]); omega)); rotate_right) | (apply Blk.below (hb := hb3); rotate_left; (focus ((try simp only [Sx.sizes]); omega)); rotate_right) | (apply Blk.below (hb := hb4); rotate_left; (focus ((try simp only [Sx.sizes]); omega)); rotate_right) | (apply Blk.below (hb := hb5); rotate_left; (focus ((try simp only [Sx.sizes]); omega)); rotate_right) | (apply Blk.below (hb := hb6); rotate_left; (focus ((try simp only [Sx.sizes]); omega)); rotate_right) | (apply Blk.below (hb := hb7); rotate_left; (focus ((try simp only [Sx.sizes]); omega)); rotate_right) | (apply Blk.below (hb := hb8); rotate_left; (focus ((try simp only [Sx.sizes]); omega)); rotate_right) | (apply Blk.below (hb := hb9); rotate_left; (focus ((try simp only [Sx.sizes]); omega)); rotate_right) | exact Blk.newE (by first | rfl | ((try simp only [Sx.sizes]); first | done | omega)) _ _ | exact Blk.put_same (by (try simp only [Sx.sizes]); first | done | omega) _ _ | (apply Blk.put_ne; (focus omega)) | apply Blk.alloc | apply Blk.drew)); done)
        rw [hXe]
        clear hXe
        have hSX := hS2.below hbX
        have hn8 : ¬ F A2.heap.size := fun hf => by have := hS2.lt hf; omega
        (apply Lst_call; (focus rfl); (focus rfl))
        have hins := c_Insert (lu true i) p F (lo true i) X (by rw [lo_sz]; omega) hSX
        rw [lu_true] at hins
        refine hins.mono ?_
        rintro v A3 ⟨rfl, F3, hS3, hT3⟩
        rw [(lo_next true i (by omega)).1]
        rw [(lo_next true i (by omega)).2] at hS3
        have k6A := hT3.blk (k2.below hbX l2) hn6
        have k8A := hT3.blk k8 hn8
        rw [lu_true] at k8A
        have l6A := k6A.lt
        have hT23 := (Turn.of hbX).trans hT3
        have hlow3 := hT23.low hlow hbw2.size
        have hn63 : ¬ F3 b6 := fun hf => hn6 ((hT23.own b6 l2).1 hf)
        have hst : LI w p b6 true m (i + 1) F3 (A3.putObj b6 (.cells [.int .u64 (((1, i + 1) : Id).1 : Int), .int .u64 (((1, i + 1) : Id).2 : Int)].toArray 32)) :=
          ⟨hi, hS3.put hn63 _, hlow3.1, Sx.Below.put (hbw2.trans hlow3.2) hb6 _, by unfold la; rw [if_neg (by omega)]; exact Blk.put_same l6A _ _, hn63, hb6⟩
        (refine Ga ?_)
        refine rndQ_n (α := Nat × (Nat → Prop)) (i + 1, F3) hst ⟨rfl, rfl, rfl, rfl, ?_, trivial⟩ (by dsimp only; omega)
        exact congrArg (Value.int .i64) (by dsimp only; omega)
      | false =>
        (refine Ga ?_)
        obtain ⟨X, hXe⟩ : ∃ X, ((A2.alloc (.cells [.int .u64 0, .int .u64 0, .int .u64 0, .int .u64 0, .int .u64 0, .int .u64 0].toArray 34)).putObj A2.heap.size (.cells [.int .u64 (((1, i + 1) : Id).1 : Int), .int .u64 (((1, i + 1) : Id).2 : Int), .int .u64 0, .int .u64 0, .int .u64 0, .int .u64 0].toArray 34)).putObj A2.heap.size (.cells [.int .u64 (((1, i + 1) : Id).1 : Int), .int .u64 (((1, i + 1) : Id).2 : Int), .int .u64 ((la i).1 : Int), .int .u64 ((la i).2 : Int), .int .u64 0, .int .u64 0].toArray 34) = X := ⟨_, rfl⟩
        have hbX : Below A2.heap.size A2 X := by rw [← hXe]; exact Bel
        have k8 : Blk X A2.heap.size (ucs (lu false i)) 34 := by
          rw [lu_false]
          rw [← hXe]
          exact (by (repeat (first | assumption | (apply Blk.below (hb := hb1); rotate_left; (focus ((try simp only [Sx.sizes]); omega)); rotate_right) | (apply Blk.below (hb := hb2); rotate_left; (focus ((try simp only [Sx.sizes]); omega)); rotate_right) | (apply Blk.below (hb := hb3); rotate_left; (focus ((try simp only [Sx.sizes]); omega)); rotate_right) | (apply Blk.below (hb := hb4); rotate_left; (focus ((try simp only [Sx.sizes]); omega)); rotate_right) | (apply Blk.below (hb := hb5); rotate_left; (focus ((try simp only [Sx.sizes]); omega)); rotate_right) | (apply Blk.below (hb := hb6); rotate_left; (focus ((try simp only [Sx.sizes]); omega)); rotate_right) | (apply Blk.below (hb := hb7); rotate_left; (focus ((try simp only [Sx.sizes]); omega)); rotate_right) | (apply Blk.below (hb := hb8); rotate_left; (focus ((try simp only [Sx.sizes]); omega)); rotate_right) | (apply Blk.below (hb := hb9); rotate_left; (focus ((try simp only [Sx.sizes]); omega)); rotate_right) | exact Blk.newE (by first | rfl | ((try simp only [Sx.sizes]); first | done | omega)) _ _ | exact Blk.put_same (by (try simp only [Sx.sizes]); first | done | omega) _ _ | (apply Blk.put_ne; (focus omega)) | apply Blk.alloc | apply Blk.drew)); done)
        rw [hXe]
        clear hXe
        have hSX := hS2.below hbX
        have hn8 : ¬ F A2.heap.size := fun hf => by have := hS2.lt hf; omega
        (apply Lst_call; (focus rfl); (focus rfl))
        have hins := c_Insert (lu false i) p F (lo false i) X (by rw [lo_sz]; omega) hSX
        rw [lu_false] at hins
        refine hins.mono ?_
        rintro v A3 ⟨rfl, F3, hS3, hT3⟩
        rw [(lo_next false i (by omega)).1]
        rw [(lo_next false i (by omega)).2] at hS3
        have k6A := hT3.blk (k2.below hbX l2) hn6
        have k8A := hT3.blk k8 hn8
        rw [lu_false] at k8A
        have l6A := k6A.lt
        have hT23 := (Turn.of hbX).trans hT3
        have hlow3 := hT23.low hlow hbw2.size
        have hn63 : ¬ F3 b6 := fun hf => hn6 ((hT23.own b6 l2).1 hf)
        have hst : LI w p b6 false m (i + 1) F3 (A3.putObj b6 (.cells [.int .u64 (((1, i + 1) : Id).1 : Int), .int .u64 (((1, i + 1) : Id).2 : Int)].toArray 32)) :=
          ⟨hi, hS3.put hn63 _, hlow3.1, Sx.Below.put (hbw2.trans hlow3.2) hb6 _, by unfold la; rw [if_neg (by omega)]; exact Blk.put_same l6A _ _, hn63, hb6⟩
        (refine Ga ?_)
        refine rndQ_n (α := Nat × (Nat → Prop)) (i + 1, F3) hst ⟨rfl, rfl, rfl, rfl, ?_, trivial⟩ (by dsimp only; omega)
        exact congrArg (Value.int .i64) (by dsimp only; omega)
    · obtain rfl : i = m + 1 := by have := hI.im; omega
      (refine Ga ?_)
      exact cutQ_n F hI ⟨rfl, rfl, rfl, trivial⟩
  · rintro J F A hI
    have hS := hI.at'
    have hlow := hI.low
    have hbel := hI.bel
    clear hI h0
    (refine Ga ?_)
    refine W_cutB (α := Nat → Prop) (fun _ => [(0, .int .i64 (1 + (m : Int))), (1, .bool back), (5, .pointer (some ⟨p, 0, none⟩))]) (fun F A => SqAt A p F (lo back (m + 1)) ∧ (∀ g, F g → w.heap.size ≤ g) ∧ Below w.heap.size w A) ?_ ?_
    · refine W_loop (α := Nat × (Nat → Prop)) (fun y => [(0, .int .i64 (1 + (m : Int))), (1, .bool back), (5, .pointer (some ⟨p, 0, none⟩)), (9, .int .i64 ((y.1 : Int) + 1))]) (fun y A => SqAt A p y.2 (lo back (m + 1)) ∧ (∀ g, y.2 g → w.heap.size ≤ g) ∧ Below w.heap.size w A) (fun y _ => m + 1 - y.1) (0, F) ⟨hS, hlow, hbel⟩ ⟨rfl, rfl, rfl, rfl, trivial⟩ ?_
      clear hS hlow hbel
      rintro J ⟨k, F⟩ A ⟨hS, hlow, hbel⟩
      dsimp only at hS hlow hbel ⊢
      by_cases hk : k < m + 1
      · have hk2 : k ≤ m := by omega
        have hmem : ((1, k + 1) : Id) ∈ (lo back (m + 1)).ids := by
          cases back with
          | true => show _ ∈ (bw 0 m).ids; rw [bw_ids, List.mem_reverse, mem_seg]; exact ⟨rfl, by show 1 ≤ k + 1; omega, by show k + 1 ≤ m + 1; omega⟩
          | false => show _ ∈ (fw 0 m).ids; rw [fw_ids, mem_seg]; exact ⟨rfl, by show 1 ≤ k + 1; omega, by show k + 1 ≤ m + 1; omega⟩
        have hpos : ((lo back (m + 1)).pos (1, k + 1) : Int) = if back then (m : Int) - k else k := by
          cases back with
          | true => show ((bw 0 m).pos (1, k + 1) : Int) = _; rw [bw_pos (by omega), if_pos rfl]; omega
          | false => show ((fw 0 m).pos (1, k + 1) : Int) = _; rw [fw_pos (by omega), if_neg (by simp)]
        have hfind : ∀ A2, Below A.heap.size A A2 → Does Try.prog 16 #[.pointer (some ⟨p, 0, none⟩), idv (1, k + 1)] A2 fun v w' => v = .int .i64 (if back then (m : Int) - k else k) ∧ ∃ F', SqAt w' p F' (lo back (m + 1)) ∧ (∀ g, F' g → w.heap.size ≤ g) ∧ Below w.heap.size w w' := fun A2 hb => by
          refine (s_Find (1, k + 1) (by rw [lo_sz]; omega) (hS.below hb)).mono ?_
          rintro v w' ⟨rfl, h1, hT⟩
          rw [if_pos hmem, hpos]
          have := hT.low hlow (Nat.le_trans hbel.size hb.size)
          exact ⟨rfl, F, h1, this.1, (hbel.trans (hb.mono hbel.size)).trans this.2⟩
        have hstep : ∀ F' A', SqAt A' p F' (lo back (m + 1)) → True := fun _ _ _ => trivial
        clear hstep hmem hpos
        cases back with
        | true =>
          (refine Ga ?_)
          (apply Lst_call; (focus rfl); (focus rfl))
          refine (c_id 1 (k + 1) A).mono ?_
          rintro v A2 ⟨rfl, hb⟩
          (refine Ga ?_)
          (apply Lst_call; (focus rfl); (focus rfl))
          refine (hfind A2 hb).mono ?_
          rintro v A3 ⟨rfl, F', hS', hlow', hbel'⟩
          rw [if_pos rfl]
          (refine Ga ?_)
          exact rndQ_n (α := Nat × (Nat → Prop)) (k + 1 + (1 + m) / 20, F') ⟨hS', hlow', hbel'⟩ ⟨rfl, rfl, rfl, congrArg (Value.int .i64) (step_arith hk2 hm2), trivial⟩ (by dsimp only; omega)
        | false =>
          (refine Ga ?_)
          (apply Lst_call; (focus rfl); (focus rfl))
          refine (c_id 1 (k + 1) A).mono ?_
          rintro v A2 ⟨rfl, hb⟩
          (refine Ga ?_)
          (apply Lst_call; (focus rfl); (focus rfl))
          refine (hfind A2 hb).mono ?_
          rintro v A3 ⟨rfl, F', hS', hlow', hbel'⟩
          rw [if_neg (by simp)]
          (refine Ga ?_)
          exact rndQ_n (α := Nat × (Nat → Prop)) (k + 1 + (1 + m) / 20, F') ⟨hS', hlow', hbel'⟩ ⟨rfl, rfl, rfl, congrArg (Value.int .i64) (step_arith hk2 hm2), trivial⟩ (by dsimp only; omega)
      · (refine Ga ?_)
        exact cutQ_n F ⟨hS, hlow, hbel⟩ ⟨rfl, rfl, rfl, trivial⟩
    · rintro J F A ⟨hS, hlow, hbel⟩
      (refine Ga ?_)
      (apply Lst_call; (focus rfl); (focus rfl))
      refine (s_Len hS).mono ?_
      rintro v A' ⟨rfl, rfl⟩
      rw [lo_sz]
      have he : ((m + 1 : Nat) : Int) = 1 + (m : Int) := by omega
      (refine Ga ?_)
      (apply retQ1; (focus rfl))
      exact ⟨rfl, hbel⟩
end Sq
end Go.Proofs.Ytmammcgdjjldbaa
