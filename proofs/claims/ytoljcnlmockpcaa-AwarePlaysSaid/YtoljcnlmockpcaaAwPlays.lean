/- AwarePlays. -/
import Derived.Test.YtoljcnlmockpcaaPl
import Derived.Test.YtoljcnlmockpcaaRw7
import Derived.Test.YtoljcnlmockpcaaSxE
import Derived.Test.YtoljcnlmockpcaaPlace
namespace Go.Proofs.Ytoljcnlmockpcaa
set_option maxRecDepth 100000
namespace Aw
open Go Go.RowKit Sx Wire
open So (cutQ_p rndQ_p W_cutS W_cutB Qa)
attribute [local irreducible] W Lst Qst Pu seqQ blkQ rndQ cutQ retQ Does Enters IntKind.wrap bits sb World.alloc World.putObj Blk
attribute [local irreducible] Rn Tk rnQ
attribute [local irreducible] RnS
set_option maxHeartbeats 8000000 in
theorem law_AwarePlays (last : Int) (vl : Value) (l : List Stp) (hl : l.length ≤ 9223372036854775807) (w : World) (hs : Stps w vl l) : Does Try.prog 7 #[.int .u64 last, vl] w fun v w' => v = .bool true ∧ Below w.heap.size w w' := by
  obtain ⟨v1, v2, rfl⟩ := hs.1.form
  rw [List.length_map] at *
  refine Does_of (args := [.int .u64 last, .slice v1 l.length v2]) Try.func7 (by kernel_rfl) rfl rfl rfl rfl rfl ?_
  (refine Ga ?_)
  (apply Lst_call; (focus rfl); (focus rfl))
  refine (c_known20 w).mono ?_
  rintro v w1 ⟨rfl, b1⟩
  have s1 := b1.size
  (refine Ga ?_)
  (apply Lst_call; (focus rfl); (focus rfl))
  refine (c_light20 _ l hl w1 (hs.below b1 (Nat.le_refl _))).mono ?_
  rintro v w2 ⟨t, rfl, b2, hlight⟩
  have b12 := b1.trans (b2.mono s1)
  cases t with
  | false =>
    (refine Ga ?_)
    (apply retQ1; (focus rfl))
    exact ⟨rfl, b12⟩
  | true =>
  obtain ⟨h200, h30⟩ := hlight rfl
  clear hlight
  have hs2 := hs.below b12 (Nat.le_refl _)
  have s2 := b12.size
  (refine Ga ?_)
  have T0 : Tri w2 (((w2.alloc (.cells [.pointer none, .pointer none, .pointer none].toArray 57)).alloc (.cells [.pointer none, .pointer none, .pointer none].toArray 58)).alloc (.cells [.slice none 0 0, .slice none 0 0, .slice none 0 0].toArray 59)) w2.heap.size (w2.heap.size + 1) (w2.heap.size + 1 + 1) 0 (fun _ => 0) (fun _ => 0) (fun _ => 0) (fun _ => default) (fun _ => default) (fun _ => .slice none 0 0) (fun _ => []) := by
    refine ⟨?_, ?_, ?_, fun i hi => absurd hi (Nat.not_lt_zero _), fun i hi => absurd hi (Nat.not_lt_zero _), fun i _ => BsC.nil _, ⟨fun i _ hi => absurd hi (Nat.not_lt_zero _), fun i _ hi => absurd hi (Nat.not_lt_zero _), fun i _ hi => absurd hi (Nat.not_lt_zero _), fun i _ hi => absurd hi (Nat.not_lt_zero _), fun i _ hi => absurd hi (Nat.not_lt_zero _), fun i _ hi => absurd hi (Nat.not_lt_zero _), fun i hi => absurd hi (Nat.not_lt_zero _), by omega, by omega, fun i hi => absurd hi (Nat.not_lt_zero _)⟩, ?_⟩
    · show Blk _ _ [.pointer none, .pointer none, .pointer none] _
      exact (by (repeat (first | assumption | (apply Blk.below (hb := hb1); rotate_left; (focus ((try simp only [Sx.sizes]); omega)); rotate_right) | (apply Blk.below (hb := hb2); rotate_left; (focus ((try simp only [Sx.sizes]); omega)); rotate_right) | (apply Blk.below (hb := hb3); rotate_left; (focus ((try simp only [Sx.sizes]); omega)); rotate_right) | (apply Blk.below (hb := hb4); rotate_left; (focus ((try simp only [Sx.sizes]); omega)); rotate_right) | (apply Blk.below (hb := hb5); rotate_left; (focus ((try simp only [Sx.sizes]); omega)); rotate_right) | (apply Blk.below (hb := hb6); rotate_left; (focus ((try simp only [Sx.sizes]); omega)); rotate_right) | (apply Blk.below (hb := hb7); rotate_left; (focus ((try simp only [Sx.sizes]); omega)); rotate_right) | (apply Blk.below (hb := hb8); rotate_left; (focus ((try simp only [Sx.sizes]); omega)); rotate_right) | (apply Blk.below (hb := hb9); rotate_left; (focus ((try simp only [Sx.sizes]); omega)); rotate_right) | exact Blk.newE (by first | rfl | ((try simp only [Sx.sizes]); first | done | omega)) _ _ | exact Blk.put_same (by (try simp only [Sx.sizes]); first | done | omega) _ _ | (apply Blk.put_ne; (focus omega)) | apply Blk.alloc | apply Blk.drew)); done)
    · show Blk _ _ [.pointer none, .pointer none, .pointer none] _
      exact (by (repeat (first | assumption | (apply Blk.below (hb := hb1); rotate_left; (focus ((try simp only [Sx.sizes]); omega)); rotate_right) | (apply Blk.below (hb := hb2); rotate_left; (focus ((try simp only [Sx.sizes]); omega)); rotate_right) | (apply Blk.below (hb := hb3); rotate_left; (focus ((try simp only [Sx.sizes]); omega)); rotate_right) | (apply Blk.below (hb := hb4); rotate_left; (focus ((try simp only [Sx.sizes]); omega)); rotate_right) | (apply Blk.below (hb := hb5); rotate_left; (focus ((try simp only [Sx.sizes]); omega)); rotate_right) | (apply Blk.below (hb := hb6); rotate_left; (focus ((try simp only [Sx.sizes]); omega)); rotate_right) | (apply Blk.below (hb := hb7); rotate_left; (focus ((try simp only [Sx.sizes]); omega)); rotate_right) | (apply Blk.below (hb := hb8); rotate_left; (focus ((try simp only [Sx.sizes]); omega)); rotate_right) | (apply Blk.below (hb := hb9); rotate_left; (focus ((try simp only [Sx.sizes]); omega)); rotate_right) | exact Blk.newE (by first | rfl | ((try simp only [Sx.sizes]); first | done | omega)) _ _ | exact Blk.put_same (by (try simp only [Sx.sizes]); first | done | omega) _ _ | (apply Blk.put_ne; (focus omega)) | apply Blk.alloc | apply Blk.drew)); done)
    · show Blk _ _ [.slice none 0 0, .slice none 0 0, .slice none 0 0] _
      exact (by (repeat (first | assumption | (apply Blk.below (hb := hb1); rotate_left; (focus ((try simp only [Sx.sizes]); omega)); rotate_right) | (apply Blk.below (hb := hb2); rotate_left; (focus ((try simp only [Sx.sizes]); omega)); rotate_right) | (apply Blk.below (hb := hb3); rotate_left; (focus ((try simp only [Sx.sizes]); omega)); rotate_right) | (apply Blk.below (hb := hb4); rotate_left; (focus ((try simp only [Sx.sizes]); omega)); rotate_right) | (apply Blk.below (hb := hb5); rotate_left; (focus ((try simp only [Sx.sizes]); omega)); rotate_right) | (apply Blk.below (hb := hb6); rotate_left; (focus ((try simp only [Sx.sizes]); omega)); rotate_right) | (apply Blk.below (hb := hb7); rotate_left; (focus ((try simp only [Sx.sizes]); omega)); rotate_right) | (apply Blk.below (hb := hb8); rotate_left; (focus ((try simp only [Sx.sizes]); omega)); rotate_right) | (apply Blk.below (hb := hb9); rotate_left; (focus ((try simp only [Sx.sizes]); omega)); rotate_right) | exact Blk.newE (by first | rfl | ((try simp only [Sx.sizes]); first | done | omega)) _ _ | exact Blk.put_same (by (try simp only [Sx.sizes]); first | done | omega) _ _ | (apply Blk.put_ne; (focus omega)) | apply Blk.alloc | apply Blk.drew)); done)
    · exact Bel
  obtain ⟨pa, hpa⟩ : ∃ pa, pa = w2.heap.size := ⟨_, rfl⟩
  obtain ⟨qa, hqa⟩ : ∃ qa, qa = w2.heap.size + 1 := ⟨_, rfl⟩
  obtain ⟨ta, hta⟩ : ∃ ta, ta = w2.heap.size + 1 + 1 := ⟨_, rfl⟩
  rw [← hta, ← hqa, ← hpa] at T0
  rw [← hta, ← hqa, ← hpa]
  refine W_cutB (α := Unit) (fun _ => [(1, .slice v1 l.length v2), (5, .pointer (some ⟨pa, 0, none⟩)), (6, .pointer (some ⟨qa, 0, none⟩)), (7, .pointer (some ⟨ta, 0, none⟩))]) (fun _ A => Pl w2 A pa qa ta 3) ?_ ?_
  · refine W_loop (α := Nat) (fun i => [(0, .int .u64 last), (1, .slice v1 l.length v2), (5, .pointer (some ⟨pa, 0, none⟩)), (6, .pointer (some ⟨qa, 0, none⟩)), (7, .pointer (some ⟨ta, 0, none⟩)), (8, .int .i64 (i : Int))]) (fun i A => i ≤ 3 ∧ ∃ p mb q a tv tb, Tri w2 A pa qa ta i p mb q a a tv tb ∧ Begun last i a tb) (fun i _ => 3 - i) 0
      ⟨Nat.zero_le _, _, _, _, _, _, _, T0, fun k hk => absurd hk (Nat.not_lt_zero _), fun k hk => absurd hk (Nat.not_lt_zero _)⟩ ⟨rfl, rfl, rfl, rfl, rfl, rfl, trivial⟩ ?_
    clear T0
    rintro J i A ⟨hi, p, mb, q, a, tv, tb, T, hB1, hB2⟩
    by_cases hil : i < 3
    · have hw : IntKind.u64.wrap ((i : Int) + 1) = ((i + 1 : Nat) : Int) := by
        rw [wu64 (by omega) (by omega)]
        omega
      (refine Ga ?_)
      refine W_cutS (α := Unit) (fun _ => [(0, .int .u64 last), (1, .slice v1 l.length v2), (5, .pointer (some ⟨pa, 0, none⟩)), (6, .pointer (some ⟨qa, 0, none⟩)), (7, .pointer (some ⟨ta, 0, none⟩)), (8, .int .i64 (i : Int))]) (fun _ A' => ∃ p mb q a, Tri w2 A' pa qa ta (i + 1) p mb q a a tv tb ∧ ∀ k, k < i + 1 → a k = ⟨k + 1, max last 1, 0, 0, []⟩) ?_ ?_
      · refine W_drawS 16 (fun _ => True) rfl rfl ?_
        have TX := T.below (Below.drew (Below.refl A.heap.size A))
        clear T
        generalize A.drew = X at *
        refine S_takeV 0 15 rfl (by kernel_rfl) (by repeat (first | exact retQ_p | apply seqQ_p | apply blkQ_p | apply rndQ_p | apply cutQ_p)) trivial ?_
        (refine Qb ?_)
        refine S_takeV 1 14 rfl (by kernel_rfl) (by repeat (first | exact retQ_p | apply seqQ_p | apply blkQ_p | apply rndQ_p | apply cutQ_p)) trivial ?_
        (refine Qb ?_)
        refine S_takeV 2 13 rfl (by kernel_rfl) (by repeat (first | exact retQ_p | apply seqQ_p | apply blkQ_p | apply rndQ_p | apply cutQ_p)) trivial ?_
        (refine Qb ?_)
        refine S_takeV 3 12 rfl (by kernel_rfl) (by repeat (first | exact retQ_p | apply seqQ_p | apply blkQ_p | apply rndQ_p | apply cutQ_p)) trivial ?_
        (refine Qb ?_)
        refine S_takeV 4 11 rfl (by kernel_rfl) (by repeat (first | exact retQ_p | apply seqQ_p | apply blkQ_p | apply rndQ_p | apply cutQ_p)) trivial ?_
        (refine Qb ?_)
        refine S_takeV 5 10 rfl (by kernel_rfl) (by repeat (first | exact retQ_p | apply seqQ_p | apply blkQ_p | apply rndQ_p | apply cutQ_p)) trivial ?_
        (refine Qb ?_)
        refine S_takeV 7 9 rfl (by kernel_rfl) (by repeat (first | exact retQ_p | apply seqQ_p | apply blkQ_p | apply rndQ_p | apply cutQ_p)) trivial ?_
        (refine Qb ?_)
        refine S_takeV 8 8 rfl (by kernel_rfl) (by repeat (first | exact retQ_p | apply seqQ_p | apply blkQ_p | apply rndQ_p | apply cutQ_p)) trivial ?_
        (refine Qb ?_)
        refine S_takeV 9 7 rfl (by kernel_rfl) (by repeat (first | exact retQ_p | apply seqQ_p | apply blkQ_p | apply rndQ_p | apply cutQ_p)) trivial ?_
        (refine Qb ?_)
        refine S_takeV 10 6 rfl (by kernel_rfl) (by repeat (first | exact retQ_p | apply seqQ_p | apply blkQ_p | apply rndQ_p | apply cutQ_p)) trivial ?_
        (refine Qb ?_)
        refine S_any [6] 5 rfl (by kernel_rfl) (all1 ?_)
        (apply Lst_call; (focus rfl); (focus rfl))
        refine (c_New (i + 1) last X).mono ?_
        rintro v X1 ⟨x, y, rfl, hx, hy, hA1, hb1⟩
        apply Lst_nil
        apply rnQ_n
        refine ⟨trivial, ?_⟩
        refine S_takeV 12 4 rfl (by kernel_rfl) (by repeat (first | exact retQ_p | apply seqQ_p | apply blkQ_p | apply rndQ_p | apply cutQ_p)) trivial ?_
        apply Qst_pu
        · apply P_aidx (r := i)
          focus rfl
          focus rfl
          focus rfl
          focus rfl
          focus rfl
          focus omega
          focus omega
          focus omega
        focus rfl
        (refine Qb ?_)
        refine S_any [11] 3 rfl (by kernel_rfl) (all1 ?_)
        (apply Lst_call; (focus rfl); (focus rfl))
        refine (r_New (i + 1) last X1).mono ?_
        rintro v X2 ⟨z, rfl, hz, hR, hb2⟩
        have TY := TX.below (hb1.trans (hb2.mono hb1.size))
        apply Lst_nil
        apply rnQ_n
        refine ⟨trivial, ?_⟩
        refine S_any [13] 2 rfl (by kernel_rfl) (all1 ?_)
        apply Lst_storeN (hb := TY.ka) (off := i)
        focus rfl
        focus constructor
        focus rfl
        focus rfl
        focus rfl
        focus rfl
        focus (simp; omega)
        apply Lst_nil
        apply rnQ_n
        refine ⟨trivial, ?_⟩
        refine S_takeV 14 1 rfl (by kernel_rfl) (by repeat (first | exact retQ_p | apply seqQ_p | apply blkQ_p | apply rndQ_p | apply cutQ_p)) trivial ?_
        apply Qst_pu
        · apply P_aidx (r := i)
          focus rfl
          focus rfl
          focus rfl
          focus rfl
          focus rfl
          focus omega
          focus omega
          focus omega
        focus rfl
        (refine Qb ?_)
        refine S_any [15] 0 rfl (by kernel_rfl) (all1 ?_)
        apply Lst_storeN (hb := (Blk.put_ne TY.sep.d.1.symm TY.kq)) (off := i)
        focus rfl
        focus constructor
        focus rfl
        focus rfl
        focus rfl
        focus rfl
        focus (simp; omega)
        apply Lst_nil
        apply rnQ_n
        refine ⟨trivial, ?_⟩
        refine S_done (by kernel_rfl) ?_
        have TZ := TX.more hil hx hy hA1 hb1 hz hR hb2
        refine cutQ_n () ⟨_, _, _, _, TZ, fun k hk => ?_⟩ ⟨rfl, rfl, rfl, rfl, rfl, rfl, trivial⟩
        unfold up
        by_cases e : k = i
        · rw [if_pos e, e]
        · rw [if_neg e]
          exact hB1 k (by omega)
      clear T hB1 p mb q a
      rintro J _ A1 ⟨p, mb, q, a, T, hB1⟩
      (refine Ga ?_)
      (apply Lst_lit1; (focus constructor); (focus rfl); (focus rfl); (focus rfl); (focus rfl); (focus rfl); (focus rfl); (focus rfl); (focus rfl); (focus ((try simp only [Sx.sizes]); first | done | rfl)); (focus rfl))
      (refine Ga ?_)
      have hb3 : Below A1.heap.size A1 (A1.alloc (.cells [.int .u8 0].toArray 5)) := Bel
      have T3 := T.below hb3
      have hone : BsC (A1.alloc (.cells [.int .u8 0].toArray 5)) (.slice (some ⟨A1.heap.size, 0, none⟩) 1 1) [0] := ⟨Ints.oneB (x := 0) (Blk.newE rfl _ _) 1, _, _, rfl, Nat.le_refl _⟩

      rw [Int.toNat_natCast, Nat.zero_add]
      apply Lst_storeN (hb := T3.kt) (off := i)
      focus rfl
      focus constructor
      focus rfl
      focus rfl
      focus rfl
      focus rfl
      focus (simp; omega)
      (refine Ga ?_)
      refine rndQ_n (α := Nat) (i + 1) ⟨by omega, _, _, _, _, _, _, T3.setT hil hone, hB1, fun k hk => ?_⟩ ⟨rfl, rfl, rfl, rfl, rfl, ?_, trivial⟩ (by omega)
      · unfold up
        by_cases e : k = i
        · rw [if_pos e]
        · rw [if_neg e]
          exact hB2 k (by omega)
      · exact congrArg (Value.int .i64) (by omega)
    · obtain rfl : i = 3 := by omega
      (refine Ga ?_)
      exact cutQ_n () ⟨_, _, _, _, _, _, _, T, Begun.knows ⟨hB1, hB2⟩, Nat.le_refl _⟩ ⟨rfl, rfl, rfl, rfl, trivial⟩
  clear T0
  rintro J _ A0 h0
  (refine Ga ?_)
  refine W_cutB (α := Unit) (fun _ => []) (fun _ A => Below w2.heap.size w2 A) ?_ ?_
  · refine W_loop (α := Nat) (fun i => [(1, .slice v1 l.length v2), (5, .pointer (some ⟨pa, 0, none⟩)), (6, .pointer (some ⟨qa, 0, none⟩)), (7, .pointer (some ⟨ta, 0, none⟩)), (9, .int .i64 (i : Int))]) (fun i A => i ≤ l.length ∧ Pl w2 A pa qa ta (3 + tot (l.take i))) (fun i _ => l.length - i) 0
      ⟨Nat.zero_le _, h0⟩ ⟨rfl, rfl, rfl, rfl, rfl, trivial⟩ ?_
    clear h0 hpa hqa hta
    rintro J i A ⟨hi, hP⟩
    have hbA : Below w2.heap.size w2 A := by
      obtain ⟨U, p, mb, q, a, tv, tb, T, _, _⟩ := hP
      exact T.bel
    by_cases hil : i < l.length
    · have hA := hs2.below hbA (Nat.le_refl _)
      obtain ⟨b, off, rfl, hbl, hcells⟩ := hA.1.at (i := i) (by rw [List.length_map]; exact hil)
      rw [List.getElem_map] at hcells
      have hok := hA.2 _ (List.getElem_mem hil)
      have htt := tot_take hil
      have hle := tot_le l (i + 1)
      generalize l[i] = x at *
      (refine Ga ?_)
      apply Lst_pu
      · apply P_idx (sz := 5)
        focus rfl
        focus rfl
        focus rfl
        focus rfl
        focus rfl
        focus omega
        focus omega
      focus rfl
      rw [Int.toNat_natCast]
      apply Lst_loadS' (cs := scs x)
      focus rfl
      focus rfl
      focus rfl
      focus rfl
      focus rfl
      focus exact hcells
      focus rfl
      (refine Ga ?_)
      apply Lst_storeA (hb := Blk.newE rfl _ _) (vs := scs x) (l' := scs x)
      focus rfl
      focus rfl
      focus rfl
      focus rfl
      focus exact hok.one
      focus (unfold scs; repeat constructor)
      apply Lst_nil
      have hbX : Below A.heap.size A ((A.alloc (.cells [.int .i64 0, .int .i64 0, .int .i64 0, .string ⟨#[]⟩, .slice none 0 0].toArray 61)).putObj A.heap.size (.cells (scs x).toArray 61)) := Bel
      have kX : Blk ((A.alloc (.cells [.int .i64 0, .int .i64 0, .int .i64 0, .string ⟨#[]⟩, .slice none 0 0].toArray 61)).putObj A.heap.size (.cells (scs x).toArray 61)) A.heap.size (scs x) 61 := Blk.put_same (by rw [World.size_alloc]; omega) _ _
      have hok := hok.below hbX
      obtain ⟨U, p, mb, q, a, tv, tb, T, Kn, hU⟩ := hP
      have hlt : ∀ j, j < 3 → p j < A.heap.size ∧ mb j < A.heap.size ∧ q j < A.heap.size := fun j hj => ⟨(T.aws j hj).lt.1, (T.aws j hj).lt.2, (T.res j hj).lt⟩
      have hta : ta ≠ A.heap.size ∧ pa ≠ A.heap.size ∧ qa ≠ A.heap.size := ⟨Nat.ne_of_lt T.kt.lt, Nat.ne_of_lt T.ka.lt, Nat.ne_of_lt T.kq.lt⟩
      have T := T.below hbX
      have hKA := hbA.size
      have hbA := hbA.trans (hbX.mono hKA)
      generalize ((A.alloc (.cells [.int .i64 0, .int .i64 0, .int .i64 0, .string ⟨#[]⟩, .slice none 0 0].toArray 61)).putObj A.heap.size (.cells (scs x).toArray 61)) = X at *
      clear hcells hA hbX
      generalize A.heap.size = K at *
      obtain ⟨k, hk, ek⟩ : ∃ k : Nat, k < 3 ∧ x.who % 3 = (k : Int) := ⟨(x.who % 3).toNat, by omega, by omega⟩
      obtain ⟨f, hf, ef⟩ : ∃ f : Nat, f < 3 ∧ x.frm % 3 = (f : Int) := ⟨(x.frm % 3).toNat, by omega, by omega⟩
      unfold scs at kX
      (refine Ga ?_)
      refine W_draws (fun A' => A' = World.drew _) rfl (by kernel_rfl) rfl ?_
      (refine Qa ?_)
      apply Qst_call ((.int .i64 (x.who % 3)))
      focus rfl
      focus rfl
      · rintro _ rfl
        exact (h_Place x.who 3 _ (by omega) (by omega)).mono fun v w' h => ⟨h.1, h.2.symm⟩
      (refine Qa ?_)
      apply Qst_call ((.int .i64 (x.frm % 3)))
      focus rfl
      focus rfl
      · rintro _ rfl
        exact (h_Place x.frm 3 _ (by omega) (by omega)).mono fun v w' h => ⟨h.1, h.2.symm⟩
      (refine Qa ?_)
      rintro _ rfl
      rw [ek, ef]
      have hbd : Below X.heap.size X X.drew := Below.drew (Below.refl _ _)
      have T := T.below hbd
      have hok := hok.below hbd
      have kX := kX.below hbd kX.lt
      have hbA := hbA.trans (hbd.mono hbA.size)
      clear hbd
      generalize X.drew = X at *
      apply seqQ_n
      apply W_seq
      refine W_cutS (α := Unit) (fun _ => [(1, .slice (some ⟨b, off, none⟩) l.length v2), (5, .pointer (some ⟨pa, 0, none⟩)), (6, .pointer (some ⟨qa, 0, none⟩)), (7, .pointer (some ⟨ta, 0, none⟩)), (9, .int .i64 (i : Int)), (11, .int .i64 (k : Int)), (12, .int .i64 (f : Int))]) (fun _ A' => Pl w2 A' pa qa ta (3 + tot (l.take (i + 1)))) ?_ ?_
      · have hbl2 := hok.bs
        have hsm : Small U (a k) := (Kn.inv k hk).small (T.aws k hk).2.2
        have hse := hsm.es
        have htl := tot_le l i
        have hcl := Kn.cl k hk
        have hltk := hlt k hk
        by_cases h0 : x.what = 0
        · (refine Ga ?_)
          apply Lst_load (hb := T.ka)
          focus rfl
          focus rfl
          focus rfl
          focus exact cp_at' p hk
          focus rfl
          (refine Ga ?_)
          (apply Lst_call; (focus rfl); (focus rfl))
          refine (c_Tick (p k) (mb k) (a k) X (T.aws k hk)).mono ?_
          rintro v X1 ⟨rfl, hA1, hc1⟩
          have T1 := T.setA hk hA1 (hc1.mono (by simp))
          obtain ⟨y, c, kR, hTick⟩ := (T1.res k hk).tick
          (refine Ga ?_)
          apply Lst_load (hb := T1.kq)
          focus rfl
          focus rfl
          focus rfl
          focus exact cp_at' q hk
          focus rfl
          (refine Ga ?_)
          obtain ⟨hR2, hc2⟩ := hTick (IntKind.u64.wrap ((a k).now + 1))
          have T2 := T1.setR hk hR2 hc2
          exact cutQ_n () ⟨U, p, mb, q, _, _, _, T2, Kn.setA hcl (Kn.inv k hk), by omega⟩ ⟨rfl, rfl, rfl, rfl, rfl, rfl, rfl, trivial⟩
        by_cases h12 : x.what = 1 ∨ x.what = 2
        · obtain ⟨Kn2, htold, htlen⟩ := Kn.tell hk x.s
          rcases h12 with h1 | h1
          all_goals
            (refine Ga ?_)
            refine W_drawS 11 (fun A' => Blk A' pa [cp 3 p 0, cp 3 p 1, cp 3 p 2] 57 ∧ Blk A' K [.int .i64 x.what, .int .i64 x.who, .int .i64 x.frm, .string x.s, x.bv] 61) rfl rfl ?_
            have hbd : Below X.heap.size X X.drew := Below.drew (Below.refl _ _)
            have T := T.below hbd
            have kX := kX.below hbd kX.lt
            clear hbd
            generalize X.drew = X at *
            have hS : Blk X pa [cp 3 p 0, cp 3 p 1, cp 3 p 2] 57 ∧ Blk X K [.int .i64 x.what, .int .i64 x.who, .int .i64 x.frm, .string x.s, x.bv] 61 := ⟨T.ka, kX⟩
            refine S_takeV 0 10 rfl (by kernel_rfl) (by repeat (first | exact retQ_p | apply seqQ_p | apply blkQ_p | apply rndQ_p | apply cutQ_p)) hS ?_
            (refine Qb ?_)
            refine S_takeV 1 9 rfl (by kernel_rfl) (by repeat (first | exact retQ_p | apply seqQ_p | apply blkQ_p | apply rndQ_p | apply cutQ_p)) hS ?_
            apply Qst_pu
            · apply P_aidx (r := k)
              focus rfl
              focus rfl
              focus rfl
              focus rfl
              focus rfl
              focus omega
              focus omega
              focus omega
            focus rfl
            (refine Qb ?_)
            refine S_takeV 2 8 rfl (by kernel_rfl) (by repeat (first | exact retQ_p | apply seqQ_p | apply blkQ_p | apply rndQ_p | apply cutQ_p)) hS ?_
            apply Qst_load (hb := fun A9 hA9 => hA9.1) (off := k)
            focus rfl
            focus rfl
            focus rfl
            focus exact cp_at p hk
            focus rfl
            (refine Qb ?_)
            refine S_takeV 3 7 rfl (by kernel_rfl) (by repeat (first | exact retQ_p | apply seqQ_p | apply blkQ_p | apply rndQ_p | apply cutQ_p)) hS ?_
            (refine Qb ?_)
            refine S_takeV 4 6 rfl (by kernel_rfl) (by repeat (first | exact retQ_p | apply seqQ_p | apply blkQ_p | apply rndQ_p | apply cutQ_p)) hS ?_
            apply Qst_load (hb := fun A9 hA9 => hA9.2) (off := 3)
            focus rfl
            focus rfl
            focus rfl
            focus rfl
            focus rfl
            (refine Qb ?_)
            refine S_any [5] 5 rfl (by kernel_rfl) (all1 ?_)
            (apply Lst_call; (focus rfl); (focus rfl))
            refine (c_TellM (p k) (mb k) (a k) x.s (by omega) X (T.aws k hk)).mono ?_
            rintro v X1 ⟨u, rfl, hu, hA1, hc1⟩
            have T1 := T.setA hk hA1 hc1
            have hS : Blk X1 pa [cp 3 p 0, cp 3 p 1, cp 3 p 2] 57 ∧ Blk X1 K [.int .i64 x.what, .int .i64 x.who, .int .i64 x.frm, .string x.s, x.bv] 61 := ⟨T1.ka, hc1.blk kX (by simp; omega)⟩
            apply Lst_nil
            apply rnQ_n
            refine ⟨hS, ?_⟩
            refine S_takeV 6 4 rfl (by kernel_rfl) (by repeat (first | exact retQ_p | apply seqQ_p | apply blkQ_p | apply rndQ_p | apply cutQ_p)) hS ?_
            (refine Qb ?_)
            refine S_takeV 7 3 rfl (by kernel_rfl) (by repeat (first | exact retQ_p | apply seqQ_p | apply blkQ_p | apply rndQ_p | apply cutQ_p)) hS ?_
            (refine Qb ?_)
            refine S_takeV 8 2 rfl (by kernel_rfl) (by repeat (first | exact retQ_p | apply seqQ_p | apply blkQ_p | apply rndQ_p | apply cutQ_p)) hS ?_
            (refine Qb ?_)
            refine S_takeV 9 1 rfl (by kernel_rfl) (by repeat (first | exact retQ_p | apply seqQ_p | apply blkQ_p | apply rndQ_p | apply cutQ_p)) hS ?_
            (refine Qb ?_)
            refine S_takeV 10 0 rfl (by kernel_rfl) (by repeat (first | exact retQ_p | apply seqQ_p | apply blkQ_p | apply rndQ_p | apply cutQ_p)) hS ?_
            (refine Qb ?_)
            refine S_done (by kernel_rfl) ?_
            (refine Ga ?_)
            refine W_drawS 11 (fun A' => Blk A' qa [cp 3 q 0, cp 3 q 1, cp 3 q 2] 58 ∧ Blk A' K [.int .i64 x.what, .int .i64 x.who, .int .i64 x.frm, .string x.s, x.bv] 61) rfl rfl ?_
            have hbd : Below X1.heap.size X1 X1.drew := Below.drew (Below.refl _ _)
            have T1 := T1.below hbd
            have kX := hS.2.below hbd hS.2.lt
            have hu := hu.below hbd (Nat.le_refl _)
            clear hbd hS
            generalize X1.drew = X1 at *
            have hS : Blk X1 qa [cp 3 q 0, cp 3 q 1, cp 3 q 2] 58 ∧ Blk X1 K [.int .i64 x.what, .int .i64 x.who, .int .i64 x.frm, .string x.s, x.bv] 61 := ⟨T1.kq, kX⟩
            refine S_takeV 0 10 rfl (by kernel_rfl) (by repeat (first | exact retQ_p | apply seqQ_p | apply blkQ_p | apply rndQ_p | apply cutQ_p)) hS ?_
            (refine Qb ?_)
            refine S_takeV 1 9 rfl (by kernel_rfl) (by repeat (first | exact retQ_p | apply seqQ_p | apply blkQ_p | apply rndQ_p | apply cutQ_p)) hS ?_
            apply Qst_pu
            · apply P_aidx (r := k)
              focus rfl
              focus rfl
              focus rfl
              focus rfl
              focus rfl
              focus omega
              focus omega
              focus omega
            focus rfl
            (refine Qb ?_)
            refine S_takeV 2 8 rfl (by kernel_rfl) (by repeat (first | exact retQ_p | apply seqQ_p | apply blkQ_p | apply rndQ_p | apply cutQ_p)) hS ?_
            apply Qst_load (hb := fun A9 hA9 => hA9.1) (off := k)
            focus rfl
            focus rfl
            focus rfl
            focus exact cp_at q hk
            focus rfl
            (refine Qb ?_)
            refine S_takeV 3 7 rfl (by kernel_rfl) (by repeat (first | exact retQ_p | apply seqQ_p | apply blkQ_p | apply rndQ_p | apply cutQ_p)) hS ?_
            (refine Qb ?_)
            refine S_takeV 4 6 rfl (by kernel_rfl) (by repeat (first | exact retQ_p | apply seqQ_p | apply blkQ_p | apply rndQ_p | apply cutQ_p)) hS ?_
            apply Qst_load (hb := fun A9 hA9 => hA9.2) (off := 3)
            focus rfl
            focus rfl
            focus rfl
            focus rfl
            focus rfl
            (refine Qb ?_)
            refine S_any [5] 5 rfl (by kernel_rfl) (all1 ?_)
            (apply Lst_call; (focus rfl); (focus rfl))
            refine (r_TellM (q k) (a k) x.s (by omega) (by omega) X1 (T1.res k hk)).mono ?_
            rintro v X2 ⟨u', rfl, hu2, hR2, hc2⟩
            have T2 := T1.setR hk hR2 hc2
            have hu := (⟨(T1.res k hk).ints hu.1 hc2, hu.2⟩ : BsC X2 u _)
            have hS : Blk X2 qa [cp 3 q 0, cp 3 q 1, cp 3 q 2] 58 ∧ Blk X2 K [.int .i64 x.what, .int .i64 x.who, .int .i64 x.frm, .string x.s, x.bv] 61 := ⟨T2.kq, hc2.blk kX (by simp; omega)⟩
            apply Lst_nil
            apply rnQ_n
            refine ⟨hS, ?_⟩
            refine S_takeV 6 4 rfl (by kernel_rfl) (by repeat (first | exact retQ_p | apply seqQ_p | apply blkQ_p | apply rndQ_p | apply cutQ_p)) hS ?_
            (refine Qb ?_)
            refine S_takeV 7 3 rfl (by kernel_rfl) (by repeat (first | exact retQ_p | apply seqQ_p | apply blkQ_p | apply rndQ_p | apply cutQ_p)) hS ?_
            (refine Qb ?_)
            refine S_takeV 8 2 rfl (by kernel_rfl) (by repeat (first | exact retQ_p | apply seqQ_p | apply blkQ_p | apply rndQ_p | apply cutQ_p)) hS ?_
            (refine Qb ?_)
            refine S_takeV 9 1 rfl (by kernel_rfl) (by repeat (first | exact retQ_p | apply seqQ_p | apply blkQ_p | apply rndQ_p | apply cutQ_p)) hS ?_
            (refine Qb ?_)
            refine S_takeV 10 0 rfl (by kernel_rfl) (by repeat (first | exact retQ_p | apply seqQ_p | apply blkQ_p | apply rndQ_p | apply cutQ_p)) hS ?_
            (refine Qb ?_)
            refine S_done (by kernel_rfl) ?_
            obtain ⟨hu1, u1, u2, rfl, hu3⟩ := hu
            have hu9 := hu2
            obtain ⟨hv1, v1', v2', rfl, hv3⟩ := hu2
            (refine Ga ?_)
            (apply Lst_call; (focus rfl); (focus rfl))
            refine (h_Bytes _ _ _ _ X2 hu1 hv1).mono ?_
            rintro r X3 ⟨rfl, rfl⟩
            rw [decide_eq_true rfl]
            by_cases he : ((a k).tell x.s).2.2 = 0
            · (refine Ga ?_)
              rw [Int.toNat_natCast, Nat.zero_add]
              apply Lst_storeN (hb := T2.kt) (off := k)
              focus rfl
              focus constructor
              focus rfl
              focus rfl
              focus rfl
              focus rfl
              focus (simp; omega)
              (refine Ga ?_)
              exact cutQ_n () ⟨U, p, mb, q, _, _, _, T2.setT hk ⟨hu1, _, _, rfl, hu3⟩, Kn2.setT k htold htlen, by omega⟩ ⟨rfl, rfl, rfl, rfl, rfl, rfl, rfl, trivial⟩
            · (refine Ga ?_)
              exact cutQ_n () ⟨U, p, mb, q, _, _, _, T2, Kn2, by omega⟩ ⟨rfl, rfl, rfl, rfl, rfl, rfl, rfl, trivial⟩
        by_cases h3 : x.what = 3
        · obtain ⟨Kn2, htold, htlen⟩ := Kn.leave hk
          (refine Ga ?_)
          apply Lst_load (hb := T.ka)
          focus rfl
          focus rfl
          focus rfl
          focus exact cp_at' p hk
          focus rfl
          (refine Ga ?_)
          (apply Lst_call; (focus rfl); (focus rfl))
          refine (c_LeaveM (p k) (mb k) (a k) (by omega) X (T.aws k hk)).mono ?_
          rintro u X1 ⟨hu, hA1, hc1⟩
          have T1 := T.setA hk hA1 hc1
          obtain ⟨hu1, u1, u2, rfl, hu3⟩ := hu
          (refine Ga ?_)
          apply Lst_load (hb := T1.kq)
          focus rfl
          focus rfl
          focus rfl
          focus exact cp_at' q hk
          focus rfl
          (refine Ga ?_)
          (apply Lst_call; (focus rfl); (focus rfl))
          refine (r_LeaveM (q k) (a k) (by omega) (by omega) X1 (T1.res k hk)).mono ?_
          rintro u X2 ⟨hu2, hR2, hc2⟩
          have T2 := T1.setR hk hR2 hc2
          have hu1 := (T1.res k hk).ints hu1 hc2
          obtain ⟨hv1, v1', v2', rfl, hv3⟩ := hu2
          (refine Ga ?_)
          (apply Lst_call; (focus rfl); (focus rfl))
          refine (h_Bytes _ _ _ _ X2 hu1 hv1).mono ?_
          rintro r X3 ⟨rfl, rfl⟩
          rw [decide_eq_true rfl]
          (refine Ga ?_)
          rw [Int.toNat_natCast, Nat.zero_add]
          apply Lst_storeN (hb := T2.kt) (off := k)
          focus rfl
          focus constructor
          focus rfl
          focus rfl
          focus rfl
          focus rfl
          focus (simp; omega)
          (refine Ga ?_)
          exact cutQ_n () ⟨U, p, mb, q, _, _, _, T2.setT hk ⟨hu1, _, _, rfl, hu3⟩, Kn2.setT k htold htlen, by omega⟩ ⟨rfl, rfl, rfl, rfl, rfl, rfl, rfl, trivial⟩
        obtain ⟨hti, tx, tc, htv, htc⟩ := T.bys f hf
        have hat : [tv 0, tv 1, tv 2][0 + Int.toNat (f : Int)]? = some (.slice tx (tb f).length tc) := by
          rw [← htv]
          exact tv_at' tv hf
        rw [htv] at hti
        (refine Ga ?_)
        apply Lst_load (hb := T.kt)
        focus rfl
        focus rfl
        focus rfl
        focus exact hat
        focus rfl
        apply Lst_pu (P_assign (by constructor))
        focus rfl
        apply Lst_nil
        apply seqQ_n
        apply W_seq
        refine W_cutS (α := Value) (fun v => [(1, .slice (some ⟨b, off, none⟩) l.length v2), (5, .pointer (some ⟨pa, 0, none⟩)), (6, .pointer (some ⟨qa, 0, none⟩)), (7, .pointer (some ⟨ta, 0, none⟩)), (9, .int .i64 (i : Int)), (10, .pointer (some ⟨K, 0, none⟩)), (11, .int .i64 (k : Int)), (12, .int .i64 (f : Int)), (18, v)]) (fun v A' => ∃ bb, Tri w2 A' pa qa ta 3 p mb q a a tv tb ∧ Blk A' K [.int .i64 x.what, .int .i64 x.who, .int .i64 x.frm, .string x.s, x.bv] 61 ∧ StpOk A' x ∧ BsC A' v bb ∧ Told' U bb ∧ bb.length ≤ 50000000) ?_ ?_
        · by_cases h6 : x.what = 6
          · have hsmf : Small U (a f) := (Kn.inv f hf).small (T.aws f hf).2.2
            have hall := hsmf.by' (by omega)
            have hall2 := hsmf.by2 (by omega)
            have hsf := hsmf.es
            (refine Ga ?_)
            apply Lst_load (hb := T.ka)
            focus rfl
            focus rfl
            focus rfl
            focus exact cp_at' p hf
            focus rfl
            (refine Ga ?_)
            (apply Lst_call; (focus rfl); (focus rfl))
            refine (c_AllO (p f) (mb f) (a f) hsmf.fit hall X (T.aws f hf)).mono ?_
            rintro u X1 ⟨hu, hb1⟩
            have hu' := BsC.own hu
            obtain ⟨u1, u2, rfl, hu2⟩ := own_form hu
            (refine Ga ?_)
            exact cutQ_n _ ⟨_, T.below hb1, kX.below hb1 kX.lt, hok.below hb1, hu', (Kn.inv f hf).all (T.aws f hf).2.2 (by omega), hall2⟩ ⟨rfl, rfl, rfl, rfl, rfl, rfl, rfl, rfl, rfl, trivial⟩
          · have := Kn.len f hf
            (refine Ga ?_)
            exact cutQ_n _ ⟨tb f, T, kX, hok, ⟨hti, _, _, rfl, htc⟩, Kn.told f hf, by omega⟩ ⟨rfl, rfl, rfl, rfl, rfl, rfl, rfl, rfl, rfl, trivial⟩
        clear T kX hok hti htv hat hbA
        rintro J v X ⟨bb, T, kX, hok, hv, hv2, hv3⟩
        apply W_seq
        refine W_cutS (α := Value) (fun v => [(1, .slice (some ⟨b, off, none⟩) l.length v2), (5, .pointer (some ⟨pa, 0, none⟩)), (6, .pointer (some ⟨qa, 0, none⟩)), (7, .pointer (some ⟨ta, 0, none⟩)), (9, .int .i64 (i : Int)), (10, .pointer (some ⟨K, 0, none⟩)), (11, .int .i64 (k : Int)), (12, .int .i64 (f : Int)), (18, v)]) (fun v A' => ∃ V bb, Tri w2 A' pa qa ta 3 p mb q a a tv tb ∧ Knows V a tb ∧ BsC A' v bb ∧ Told' V bb ∧ bb.length ≤ 50000000 ∧ V.length ≤ 3 + tot (l.take (i + 1))) ?_ ?_
        · obtain ⟨hv1, x1', c1', rfl, hvc⟩ := hv
          by_cases h7 : x.what = 7
          · have htl2 := tells_len x.b
            obtain ⟨hb1, y1, d1, hbv, hbc⟩ := hok.b
            rw [hbv] at kX hb1
            (refine Ga ?_)
            exact cutQ_n _ ⟨U ++ tells x.b, x.b, T, Kn.mono (fun y hy => List.mem_append.2 (.inl hy)), ⟨hb1, _, _, rfl, hbc⟩, Told'.any U x.b, by omega, by rw [List.length_append]; omega⟩ ⟨rfl, rfl, rfl, rfl, rfl, rfl, rfl, rfl, rfl, trivial⟩
          · (refine Ga ?_)
            exact cutQ_n _ ⟨U, bb, T, Kn, ⟨hv1, _, _, rfl, hvc⟩, hv2, hv3, by omega⟩ ⟨rfl, rfl, rfl, rfl, rfl, rfl, rfl, rfl, rfl, trivial⟩
        clear T kX hok hv hv2 hv3 bb v Kn hU
        rintro J v X ⟨V, bb, T, Kn, hv, hv2, hv3, hV⟩
        obtain ⟨hv1, x1', c1', rfl, hvc⟩ := hv
        obtain ⟨hI, hI2⟩ := (Kn.inv k hk).take hv2
        have hse := (Kn.inv k hk).len (T.aws k hk).2.2
        (refine Ga ?_)
        apply Lst_load (hb := T.ka)
        focus rfl
        focus rfl
        focus rfl
        focus exact cp_at' p hk
        focus rfl
        (refine Ga ?_)
        (apply Lst_call; (focus rfl); (focus rfl))
        refine (c_Take (p k) (mb k) (a k) _ bb (by omega) X (T.aws k hk) hv1).mono ?_
        rintro v X1 ⟨rfl, hA1, hc1⟩
        have T1 := T.setA hk hA1 hc1
        have hv4 := (T.aws k hk).ints hv1 hc1
        (refine Ga ?_)
        apply Lst_load (hb := T1.kq)
        focus rfl
        focus rfl
        focus rfl
        focus exact cp_at' q hk
        focus rfl
        (refine Ga ?_)
        (apply Lst_call; (focus rfl); (focus rfl))
        refine (r_Take (q k) (a k) _ bb (by omega) (by omega) X1 (T1.res k hk) hv4 ⟨_, _, rfl, hvc⟩).mono ?_
        rintro v X2 ⟨rfl, hR2, hc2⟩
        have T2 := T1.setR hk hR2 hc2
        have Kn2 := Kn.setA (hI2.trans hcl) hI
        generalize (a k).take bb = R at *
        obtain ⟨a', nw, e⟩ := R
        dsimp only at *
        (refine Ga ?_)
        exact cutQ_n () ⟨V, p, mb, q, _, _, _, T2, Kn2, hV⟩ ⟨rfl, rfl, rfl, rfl, rfl, rfl, rfl, trivial⟩
      rintro J _ X ⟨U, p, mb, q, a, tv, tb, T, Kn, hU⟩
      have hsm : Small U (a k) := (Kn.inv k hk).small (T.aws k hk).2.2
      have hse := hsm.es
      have hall := hsm.by' (by omega)
      (refine Ga ?_)
      refine W_drawS 52 (fun A' => Below X.heap.size X A') rfl rfl ?_
      have hS : Below X.heap.size X X.drew := Below.drew (Below.refl _ _)
      obtain ⟨y, c, kR, -⟩ := (T.res k hk).tick
      have hwf : IntKind.u64.wrap ((f : Int) + 1) = ((f + 1 : Nat) : Int) := by
        rw [wu64 (by omega) (by omega)]
        omega
      have hsl : (a k).seen.length ≤ (a k).es.length := by
        unfold Awr.seen
        rw [List.length_map]
        exact List.length_filter_le _ _
      generalize X.drew = X0 at *
      refine S_takeV 0 51 rfl (by kernel_rfl) (by repeat (first | exact retQ_p | apply seqQ_p | apply blkQ_p | apply rndQ_p | apply cutQ_p)) hS ?_
      (refine Qb ?_)
      refine S_takeV 1 50 rfl (by kernel_rfl) (by repeat (first | exact retQ_p | apply seqQ_p | apply blkQ_p | apply rndQ_p | apply cutQ_p)) hS ?_
      apply Qst_pu
      · apply P_aidx (r := k)
        focus rfl
        focus rfl
        focus rfl
        focus rfl
        focus rfl
        focus omega
        focus omega
        focus omega
      focus rfl
      (refine Qb ?_)
      refine S_takeV 2 49 rfl (by kernel_rfl) (by repeat (first | exact retQ_p | apply seqQ_p | apply blkQ_p | apply rndQ_p | apply cutQ_p)) hS ?_
      apply Qst_load (hb := fun A9 hA9 => T.ka.below hA9 T.ka.lt) (off := k)
      focus rfl
      focus rfl
      focus rfl
      focus exact cp_at p hk
      focus rfl
      (refine Qb ?_)
      refine S_takeV 4 48 rfl (by kernel_rfl) (by repeat (first | exact retQ_p | apply seqQ_p | apply blkQ_p | apply rndQ_p | apply cutQ_p)) hS ?_
      (refine Qb ?_)
      refine S_takeV 5 47 rfl (by kernel_rfl) (by repeat (first | exact retQ_p | apply seqQ_p | apply blkQ_p | apply rndQ_p | apply cutQ_p)) hS ?_
      apply Qst_pu
      · apply P_aidx (r := k)
        focus rfl
        focus rfl
        focus rfl
        focus rfl
        focus rfl
        focus omega
        focus omega
        focus omega
      focus rfl
      (refine Qb ?_)
      refine S_takeV 6 46 rfl (by kernel_rfl) (by repeat (first | exact retQ_p | apply seqQ_p | apply blkQ_p | apply rndQ_p | apply cutQ_p)) hS ?_
      apply Qst_load (hb := fun A9 hA9 => T.kq.below hA9 T.kq.lt) (off := k)
      focus rfl
      focus rfl
      focus rfl
      focus exact cp_at q hk
      focus rfl
      (refine Qb ?_)
      refine S_any [3] 45 rfl (by kernel_rfl) (all1 ?_)
      (apply Lst_call; (focus rfl); (focus rfl))
      refine (c_AllO (p k) (mb k) (a k) hsm.fit hall X0 ((T.aws k hk).below hS)).mono ?_
      rintro u X1 ⟨hu, hb1⟩
      have hui := Ints.ofO hu
      obtain ⟨u1, u2, rfl, _⟩ := own_form hu
      have hS := Below.after hS hb1
      apply Lst_nil
      apply rnQ_n
      refine ⟨hS, ?_⟩
      refine S_any [7] 44 rfl (by kernel_rfl) (all1 ?_)
      (apply Lst_call; (focus rfl); (focus rfl))
      refine (r_All (q k) (a k) hsm.fit hall X1 ((T.res k hk).below hS)).mono ?_
      rintro v X2 ⟨hv, _, hb2⟩
      have hui := hui.below hb2 (Nat.le_refl _)
      have hS := Below.after hS hb2
      obtain ⟨v1', v2', rfl⟩ := hv.form
      apply Lst_nil
      apply rnQ_n
      refine ⟨hS, ?_⟩
      refine S_any [8] 43 rfl (by kernel_rfl) (all1 ?_)
      (apply Lst_call; (focus rfl); (focus rfl))
      refine (h_Bytes _ _ _ _ X2 hui hv).mono ?_
      rintro r X9 ⟨rfl, rfl⟩
      rw [decide_eq_true rfl]
      apply Lst_nil
      apply rnQ_n
      refine ⟨hS, ?_⟩
      refine S_takeV 9 42 rfl (by kernel_rfl) (by repeat (first | exact retQ_p | apply seqQ_p | apply blkQ_p | apply rndQ_p | apply cutQ_p)) hS ?_
      (refine Qb ?_)
      refine S_takeV 10 41 rfl (by kernel_rfl) (by repeat (first | exact retQ_p | apply seqQ_p | apply blkQ_p | apply rndQ_p | apply cutQ_p)) hS ?_
      (refine Qb ?_)
      refine S_takeV 11 40 rfl (by kernel_rfl) (by repeat (first | exact retQ_p | apply seqQ_p | apply blkQ_p | apply rndQ_p | apply cutQ_p)) hS ?_
      apply Qst_guard_t
      focus rfl
      focus rfl
      (refine Qb ?_)
      refine S_takeV 12 39 rfl (by kernel_rfl) (by repeat (first | exact retQ_p | apply seqQ_p | apply blkQ_p | apply rndQ_p | apply cutQ_p)) hS ?_
      apply Qst_guard_t
      focus rfl
      focus rfl
      apply Qst_pu
      · apply P_aidx (r := k)
        focus rfl
        focus rfl
        focus rfl
        focus rfl
        focus rfl
        focus omega
        focus omega
        focus omega
      focus rfl
      (refine Qb ?_)
      refine S_takeV 13 38 rfl (by kernel_rfl) (by repeat (first | exact retQ_p | apply seqQ_p | apply blkQ_p | apply rndQ_p | apply cutQ_p)) hS ?_
      apply Qst_guard_t
      focus rfl
      focus rfl
      apply Qst_load (hb := fun A9 hA9 => T.ka.below hA9 T.ka.lt) (off := k)
      focus rfl
      focus rfl
      focus rfl
      focus exact cp_at p hk
      focus rfl
      (refine Qb ?_)
      refine S_takeV 15 37 rfl (by kernel_rfl) (by repeat (first | exact retQ_p | apply seqQ_p | apply blkQ_p | apply rndQ_p | apply cutQ_p)) hS ?_
      apply Qst_guard_t
      focus rfl
      focus rfl
      (refine Qb ?_)
      refine S_takeV 16 36 rfl (by kernel_rfl) (by repeat (first | exact retQ_p | apply seqQ_p | apply blkQ_p | apply rndQ_p | apply cutQ_p)) hS ?_
      apply Qst_guard_t
      focus rfl
      focus rfl
      apply Qst_pu
      · apply P_aidx (r := k)
        focus rfl
        focus rfl
        focus rfl
        focus rfl
        focus rfl
        focus omega
        focus omega
        focus omega
      focus rfl
      (refine Qb ?_)
      refine S_takeV 17 35 rfl (by kernel_rfl) (by repeat (first | exact retQ_p | apply seqQ_p | apply blkQ_p | apply rndQ_p | apply cutQ_p)) hS ?_
      apply Qst_guard_t
      focus rfl
      focus rfl
      apply Qst_load (hb := fun A9 hA9 => T.kq.below hA9 T.kq.lt) (off := k)
      focus rfl
      focus rfl
      focus rfl
      focus exact cp_at q hk
      focus rfl
      (refine Qb ?_)
      refine S_any [14] 34 rfl (by kernel_rfl) (all1 ?_)
      (refine Gt ?_)
      (apply Lst_call; (focus rfl); (focus rfl))
      refine (c_Seen (p k) (mb k) (a k) (by omega) X2 ((T.aws k hk).below hS)).mono ?_
      rintro s X3 ⟨hs1, hb3⟩
      have hS := Below.after hS hb3
      obtain ⟨s1', s2', rfl⟩ := hs1.form
      apply Lst_nil
      apply rnQ_n
      refine ⟨hS, ?_⟩
      refine S_any [18] 33 rfl (by kernel_rfl) (all1 ?_)
      (refine Gt ?_)
      (apply Lst_call; (focus rfl); (focus rfl))
      refine (r_Seen (q k) (a k) (by omega) X3 ((T.res k hk).below hS)).mono ?_
      rintro s X4 ⟨hs3, _, hb4⟩
      have hs1 := hs1.below hb4 (Nat.le_refl _)
      have hS := Below.after hS hb4
      obtain ⟨s3', s4', rfl⟩ := hs3.form
      apply Lst_nil
      apply rnQ_n
      refine ⟨hS, ?_⟩
      refine S_any [19] 32 rfl (by kernel_rfl) (all1 ?_)
      (refine Gt ?_)
      (apply Lst_call; (focus rfl); (focus rfl))
      refine (h_PresentsT _ _ (a k).seen (by omega) X4 hs1 hs3).mono ?_
      rintro r X5 ⟨rfl, hb5⟩
      have hS := Below.after hS hb5
      apply Lst_nil
      apply rnQ_n
      refine ⟨hS, ?_⟩
      refine S_takeV 20 31 rfl (by kernel_rfl) (by repeat (first | exact retQ_p | apply seqQ_p | apply blkQ_p | apply rndQ_p | apply cutQ_p)) hS ?_
      apply Qst_guard_t
      focus rfl
      focus rfl
      (refine Qb ?_)
      refine S_takeV 21 30 rfl (by kernel_rfl) (by repeat (first | exact retQ_p | apply seqQ_p | apply blkQ_p | apply rndQ_p | apply cutQ_p)) hS ?_
      (refine Qb ?_)
      refine S_takeV 22 29 rfl (by kernel_rfl) (by repeat (first | exact retQ_p | apply seqQ_p | apply blkQ_p | apply rndQ_p | apply cutQ_p)) hS ?_
      (refine Qb ?_)
      refine S_takeV 23 28 rfl (by kernel_rfl) (by repeat (first | exact retQ_p | apply seqQ_p | apply blkQ_p | apply rndQ_p | apply cutQ_p)) hS ?_
      apply Qst_guard_t
      focus rfl
      focus rfl
      (refine Qb ?_)
      refine S_takeV 24 27 rfl (by kernel_rfl) (by repeat (first | exact retQ_p | apply seqQ_p | apply blkQ_p | apply rndQ_p | apply cutQ_p)) hS ?_
      apply Qst_guard_t
      focus rfl
      focus rfl
      apply Qst_pu
      · apply P_aidx (r := k)
        focus rfl
        focus rfl
        focus rfl
        focus rfl
        focus rfl
        focus omega
        focus omega
        focus omega
      focus rfl
      (refine Qb ?_)
      refine S_takeV 25 26 rfl (by kernel_rfl) (by repeat (first | exact retQ_p | apply seqQ_p | apply blkQ_p | apply rndQ_p | apply cutQ_p)) hS ?_
      apply Qst_guard_t
      focus rfl
      focus rfl
      apply Qst_load (hb := fun A9 hA9 => T.ka.below hA9 T.ka.lt) (off := k)
      focus rfl
      focus rfl
      focus rfl
      focus exact cp_at p hk
      focus rfl
      (refine Qb ?_)
      refine S_takeV 27 25 rfl (by kernel_rfl) (by repeat (first | exact retQ_p | apply seqQ_p | apply blkQ_p | apply rndQ_p | apply cutQ_p)) hS ?_
      apply Qst_guard_t
      focus rfl
      focus rfl
      (refine Qb ?_)
      refine S_takeV 28 24 rfl (by kernel_rfl) (by repeat (first | exact retQ_p | apply seqQ_p | apply blkQ_p | apply rndQ_p | apply cutQ_p)) hS ?_
      apply Qst_guard_t
      focus rfl
      focus rfl
      apply Qst_pu
      · apply P_aidx (r := k)
        focus rfl
        focus rfl
        focus rfl
        focus rfl
        focus rfl
        focus omega
        focus omega
        focus omega
      focus rfl
      (refine Qb ?_)
      refine S_takeV 29 23 rfl (by kernel_rfl) (by repeat (first | exact retQ_p | apply seqQ_p | apply blkQ_p | apply rndQ_p | apply cutQ_p)) hS ?_
      apply Qst_guard_t
      focus rfl
      focus rfl
      apply Qst_load (hb := fun A9 hA9 => T.kq.below hA9 T.kq.lt) (off := k)
      focus rfl
      focus rfl
      focus rfl
      focus exact cp_at q hk
      focus rfl
      (refine Qb ?_)
      refine S_takeV 30 22 rfl (by kernel_rfl) (by repeat (first | exact retQ_p | apply seqQ_p | apply blkQ_p | apply rndQ_p | apply cutQ_p)) hS ?_
      apply Qst_guard_t
      focus rfl
      focus rfl
      apply Qst_pu (P_nilCheck rfl)
      focus rfl
      (refine Qb ?_)
      refine S_takeV 31 21 rfl (by kernel_rfl) (by repeat (first | exact retQ_p | apply seqQ_p | apply blkQ_p | apply rndQ_p | apply cutQ_p)) hS ?_
      apply Qst_guard_t
      focus rfl
      focus rfl
      (refine Qb ?_)
      refine S_takeV 32 20 rfl (by kernel_rfl) (by repeat (first | exact retQ_p | apply seqQ_p | apply blkQ_p | apply rndQ_p | apply cutQ_p)) hS ?_
      apply Qst_guard_t
      focus rfl
      focus rfl
      apply Qst_load (hb := fun A9 hA9 => kR.below hA9 kR.lt) (off := 2)
      focus rfl
      focus rfl
      focus rfl
      focus rfl
      focus rfl
      (refine Qb ?_)
      refine S_any [26] 19 rfl (by kernel_rfl) (all1 ?_)
      (refine Gt ?_)
      (apply Lst_call; (focus rfl); (focus rfl))
      refine (c_Now (p k) (mb k) (a k) X5 ((T.aws k hk).below hS)).mono ?_
      rintro r X9 ⟨rfl, rfl⟩
      apply Lst_nil
      apply rnQ_n
      refine ⟨hS, ?_⟩
      refine S_takeV 33 18 rfl (by kernel_rfl) (by repeat (first | exact retQ_p | apply seqQ_p | apply blkQ_p | apply rndQ_p | apply cutQ_p)) hS ?_
      apply Qst_guard_t
      focus rfl
      focus rfl
      (refine Qb ?_)
      refine S_takeV 34 17 rfl (by kernel_rfl) (by repeat (first | exact retQ_p | apply seqQ_p | apply blkQ_p | apply rndQ_p | apply cutQ_p)) hS ?_
      (refine Qb ?_)
      refine S_takeV 35 16 rfl (by kernel_rfl) (by repeat (first | exact retQ_p | apply seqQ_p | apply blkQ_p | apply rndQ_p | apply cutQ_p)) hS ?_
      (refine Qb ?_)
      refine S_takeV 36 15 rfl (by kernel_rfl) (by repeat (first | exact retQ_p | apply seqQ_p | apply blkQ_p | apply rndQ_p | apply cutQ_p)) hS ?_
      apply Qst_guard_t
      focus rfl
      focus rfl
      (refine Qb ?_)
      refine S_takeV 37 14 rfl (by kernel_rfl) (by repeat (first | exact retQ_p | apply seqQ_p | apply blkQ_p | apply rndQ_p | apply cutQ_p)) hS ?_
      apply Qst_guard_t
      focus rfl
      focus rfl
      apply Qst_pu
      · apply P_aidx (r := k)
        focus rfl
        focus rfl
        focus rfl
        focus rfl
        focus rfl
        focus omega
        focus omega
        focus omega
      focus rfl
      (refine Qb ?_)
      refine S_takeV 38 13 rfl (by kernel_rfl) (by repeat (first | exact retQ_p | apply seqQ_p | apply blkQ_p | apply rndQ_p | apply cutQ_p)) hS ?_
      apply Qst_guard_t
      focus rfl
      focus rfl
      apply Qst_load (hb := fun A9 hA9 => T.ka.below hA9 T.ka.lt) (off := k)
      focus rfl
      focus rfl
      focus rfl
      focus exact cp_at p hk
      focus rfl
      (refine Qb ?_)
      refine S_takeV 39 12 rfl (by kernel_rfl) (by repeat (first | exact retQ_p | apply seqQ_p | apply blkQ_p | apply rndQ_p | apply cutQ_p)) hS ?_
      apply Qst_guard_t
      focus rfl
      focus rfl
      (refine Qb ?_)
      refine S_takeV 40 11 rfl (by kernel_rfl) (by repeat (first | exact retQ_p | apply seqQ_p | apply blkQ_p | apply rndQ_p | apply cutQ_p)) hS ?_
      apply Qst_guard_t
      focus rfl
      focus rfl
      (refine Qb ?_)
      refine S_takeV 41 10 rfl (by kernel_rfl) (by repeat (first | exact retQ_p | apply seqQ_p | apply blkQ_p | apply rndQ_p | apply cutQ_p)) hS ?_
      apply Qst_guard_t
      focus rfl
      focus rfl
      (refine Qb ?_)
      refine S_takeV 43 9 rfl (by kernel_rfl) (by repeat (first | exact retQ_p | apply seqQ_p | apply blkQ_p | apply rndQ_p | apply cutQ_p)) hS ?_
      apply Qst_guard_t
      focus rfl
      focus rfl
      (refine Qb ?_)
      refine S_takeV 44 8 rfl (by kernel_rfl) (by repeat (first | exact retQ_p | apply seqQ_p | apply blkQ_p | apply rndQ_p | apply cutQ_p)) hS ?_
      apply Qst_guard_t
      focus rfl
      focus rfl
      apply Qst_pu
      · apply P_aidx (r := k)
        focus rfl
        focus rfl
        focus rfl
        focus rfl
        focus rfl
        focus omega
        focus omega
        focus omega
      focus rfl
      (refine Qb ?_)
      refine S_takeV 45 7 rfl (by kernel_rfl) (by repeat (first | exact retQ_p | apply seqQ_p | apply blkQ_p | apply rndQ_p | apply cutQ_p)) hS ?_
      apply Qst_guard_t
      focus rfl
      focus rfl
      apply Qst_load (hb := fun A9 hA9 => T.kq.below hA9 T.kq.lt) (off := k)
      focus rfl
      focus rfl
      focus rfl
      focus exact cp_at q hk
      focus rfl
      (refine Qb ?_)
      refine S_takeV 46 6 rfl (by kernel_rfl) (by repeat (first | exact retQ_p | apply seqQ_p | apply blkQ_p | apply rndQ_p | apply cutQ_p)) hS ?_
      apply Qst_guard_t
      focus rfl
      focus rfl
      (refine Qb ?_)
      refine S_takeV 47 5 rfl (by kernel_rfl) (by repeat (first | exact retQ_p | apply seqQ_p | apply blkQ_p | apply rndQ_p | apply cutQ_p)) hS ?_
      apply Qst_guard_t
      focus rfl
      focus rfl
      (refine Qb ?_)
      refine S_takeV 48 4 rfl (by kernel_rfl) (by repeat (first | exact retQ_p | apply seqQ_p | apply blkQ_p | apply rndQ_p | apply cutQ_p)) hS ?_
      apply Qst_guard_t
      focus rfl
      focus rfl
      (refine Qb ?_)
      refine S_any [42] 3 rfl (by kernel_rfl) (all1 ?_)
      (refine Gt ?_)
      (apply Lst_call; (focus rfl); (focus rfl))
      refine (c_Clock (p k) (mb k) (f + 1) (a k) X5 ((T.aws k hk).below hS)).mono ?_
      rintro r X9 ⟨rfl, rfl⟩
      apply Lst_nil
      apply rnQ_n
      refine ⟨hS, ?_⟩
      refine S_any [49] 2 rfl (by kernel_rfl) (all1 ?_)
      (refine Gt ?_)
      (apply Lst_call; (focus rfl); (focus rfl))
      refine (r_Clock (q k) (f + 1) (a k) (by omega) X5 ((T.res k hk).below hS)).mono ?_
      rintro r X6 ⟨rfl, _, hb6⟩
      have hS := Below.after hS hb6
      apply Lst_nil
      apply rnQ_n
      refine ⟨hS, ?_⟩
      refine S_takeV 50 1 rfl (by kernel_rfl) (by repeat (first | exact retQ_p | apply seqQ_p | apply blkQ_p | apply rndQ_p | apply cutQ_p)) hS ?_
      apply Qst_guard_t
      focus rfl
      focus rfl
      (refine Qb ?_)
      refine S_takeV 51 0 rfl (by kernel_rfl) (by repeat (first | exact retQ_p | apply seqQ_p | apply blkQ_p | apply rndQ_p | apply cutQ_p)) hS ?_
      (refine Qb ?_)
      refine S_done (by kernel_rfl) ?_
      (refine Ga ?_)
      refine rndQ_n (α := Nat) (i + 1) ⟨by omega, U, p, mb, q, a, tv, tb, T.below hS, Kn, hU⟩ ⟨rfl, rfl, rfl, rfl, ?_, trivial⟩ (by omega)
      exact congrArg (Value.int .i64) (by omega)
    · obtain rfl : i = l.length := by omega
      (refine Ga ?_)
      exact cutQ_n () hbA trivial
  rintro J _ A hbA
  (refine Ga ?_)
  (apply retQ1; (focus rfl))
  exact ⟨rfl, b12.trans (hbA.mono s2)⟩
end Aw
end Go.Proofs.Ytoljcnlmockpcaa
