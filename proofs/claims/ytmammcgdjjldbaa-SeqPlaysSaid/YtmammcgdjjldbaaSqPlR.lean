/- The reference's Run. -/
import Derived.Test.YtmammcgdjjldbaaSqPlP
import Derived.Test.YtmammcgdjjldbaaSqRh
import Derived.Test.YtmammcgdjjldbaaSxF
namespace Go.Proofs.Ytmammcgdjjldbaa
set_option maxRecDepth 100000
namespace Sq
open Go Go.RowKit Sx Tl
variable {w : World} {p : Nat} {F : Nat → Prop} {t : Fo}
theorem r_has (k : Id) (hs : t.sz ≤ 1000000000) (h : RefAt w p F t) : Does Try.prog 38 #[.pointer (some ⟨p, 0, none⟩), idv k] w fun v w' => (∃ x : Int, v = .int .i64 x ∧ -1 ≤ x ∧ x ≤ 1000000000 ∧ (0 ≤ x ↔ k ∈ t.ids)) ∧ Below w.heap.size w w' := by
  obtain ⟨N, ρ, h, hF, hg, hn, hN⟩ := h
  have hlen := len_of hn hg hN
  refine (c_rfind k hn (fun j hj => fits_u hF j ((hN j).1 hj)) (by omega) h).mono ?_
  rintro v w' ⟨rfl, hb⟩
  refine ⟨⟨fx N k, rfl, ?_⟩, hb⟩
  unfold fx
  by_cases hk : k ∈ N
  · have h1 := List.idxOf_lt_length_of_mem hk
    rw [if_pos hk]
    unfold ix
    refine ⟨by omega, by omega, fun _ => (hN k).1 hk, fun _ => by omega⟩
  · rw [if_neg hk]
    exact ⟨by omega, by omega, fun h => by omega, fun h => absurd ((hN k).2 h) hk⟩
theorem Turn.putB {F F' : Nat → Prop} {w w' : World} (h : Turn F F' w w') {b : Nat} (hb : w.heap.size ≤ b) (o : Obj) : Turn F F' w (w'.putObj b o) :=
  ⟨h.os, h.tape, h.output, by rw [World.putObj_size]; exact h.size, h.own, fun g hg hn => (World.putObj_heap_other (by omega)).trans (h.block g hg hn)⟩
theorem RefAt.grown {A : World} (h : RefAt w p F t) (hb : Below w.heap.size w A) : RefAt A p F t := h.below hb
attribute [local irreducible] W Lst Qst Pu seqQ blkQ rndQ cutQ retQ Does Enters IntKind.wrap bits sb World.alloc World.putObj Blk
set_option maxHeartbeats 4000000 in
theorem c_rRun (u : Un) (n : Int) (hs : t.sz ≤ 100000) (hn : n ≤ 1000) (hn0 : -9223372036854775808 ≤ n) (h : RefAt w p F t) :
    Does Try.prog 26 #[.pointer (some ⟨p, 0, none⟩), .agg (ucs u).toArray, .int .i64 n] w fun v w' => v = .bool (runOk t u n) ∧ ∃ F', RefAt w' p F' (runR t u n) ∧ Turn F F' w w' := by
  refine Does_of (args := [.pointer (some ⟨p, 0, none⟩), .agg (ucs u).toArray, .int .i64 n]) Try.func26 (by kernel_rfl) rfl rfl rfl rfl rfl ?_
  have hno : runOk t u n = false → runR t u n = t := fun e => by unfold runR; rw [e]; rfl
  (refine Ga ?_)
  obtain ⟨X, hXe⟩ : ∃ X, w.alloc (.cells (ucs u).toArray 34) = X := ⟨_, rfl⟩
  have hbX : Below w.heap.size w X := by rw [← hXe]; exact Bel
  have kX : Blk X w.heap.size (ucs u) 34 := by rw [← hXe]; exact (by (repeat (first | assumption | (apply Blk.below (hb := hb1); rotate_left; (focus ((try simp only [Sx.sizes]); omega)); rotate_right) | (apply Blk.below (hb := hb2); rotate_left; (focus ((try simp only [Sx.sizes]); omega)); rotate_right) | (apply Blk.below (hb := hb3); rotate_left; (focus ((try simp only [Sx.sizes]); omega)); rotate_right) | (apply Blk.below (hb := hb4); rotate_left; (focus ((try simp only [Sx.sizes]); omega)); rotate_right) | (apply Blk.below (hb := hb5); rotate_left; (focus ((try simp only [Sx.sizes]); omega)); rotate_right) | (apply Blk.below (hb := hb6); rotate_left; (focus ((try simp only [Sx.sizes]); omega)); rotate_right) | (apply Blk.below (hb := hb7); rotate_left; (focus ((try simp only [Sx.sizes]); omega)); rotate_right) | (apply Blk.below (hb := hb8); rotate_left; (focus ((try simp only [Sx.sizes]); omega)); rotate_right) | (apply Blk.below (hb := hb9); rotate_left; (focus ((try simp only [Sx.sizes]); omega)); rotate_right) | exact Blk.newE (by first | rfl | ((try simp only [Sx.sizes]); first | done | omega)) _ _ | exact Blk.put_same (by (try simp only [Sx.sizes]); first | done | omega) _ _ | (apply Blk.put_ne; (focus omega)) | apply Blk.alloc | apply Blk.drew)); done)
  rw [hXe]
  clear hXe
  have hX := h.below hbX
  have hTX : Turn F F w X := .of hbX
  have hnF : ¬ F w.heap.size := fun hf => by have := h.lt hf; omega
  generalize hbe : w.heap.size = b at *
  have lX := kX.lt
  have kX' := kX
  unfold ucs at kX
  by_cases h1 : n < 1
  · have hr : runOk t u n = false := by
      unfold runOk
      rw [decide_eq_false (show ¬ (1 ≤ n) by omega)]
      rfl
    (refine Ga ?_)
    (apply retQ1; (focus rfl))
    exact ⟨by rw [hr]; rfl, F, by rw [hno hr]; exact hX, hTX⟩
  (refine Ga ?_)
  (apply Lst_call; (focus rfl); (focus rfl))
  refine (r_Right u.id X).mono ?_
  rintro v X1 ⟨rfl, hb1⟩
  have hX1 := hX.below hb1
  have hT1 : Turn F F w X1 := hTX.trans (.of hb1)
  have k1 := kX.below hb1 lX
  have k1' := kX'.below hb1 lX
  have l1 := k1.lt
  cases hR : Fo.rightId u.id with
  | false =>
    have hr : runOk t u n = false := by
      unfold runOk
      rw [hR]
      simp
    (refine Ga ?_)
    (apply retQ1; (focus rfl))
    exact ⟨by rw [hr]; rfl, F, by rw [hno hr]; exact hX1, hT1⟩
  | true =>
    have hR' := hR
    unfold Fo.rightId Fo.num at hR'
    simp only [Bool.and_eq_true, decide_eq_true_eq] at hR'
    obtain ⟨⟨c1, c2⟩, c3, c4⟩ := hR'
    have hMx : (9007199254740991 : Int) - (u.id.2 : Int) ≥ 0 := by omega
    by_cases h2 : n - 1 > 9007199254740991 - (u.id.2 : Int)
    · have hr : runOk t u n = false := by
        unfold runOk
        rw [decide_eq_false (show ¬ (n ≤ 9007199254740991 - (u.id.2 : Int) + 1) by omega)]
        simp
      (refine Ga ?_)
      (apply retQ1; (focus rfl))
      exact ⟨by rw [hr]; rfl, F, by rw [hno hr]; exact hX1, hT1⟩
    obtain ⟨m, rfl⟩ : ∃ m : Nat, n = (m : Int) := ⟨n.toNat, by omega⟩
    have hm1 : 1 ≤ m := by omega
    have hclk : u.id.2 + m ≤ 9007199254740992 := by omega
    have hrun : runOk t u (m : Int) = (Fo.may t u && freeTo t u m) := by
      unfold runOk
      rw [decide_eq_true (show (1 : Int) ≤ (m : Int) by omega), hR, decide_eq_true (show (m : Int) ≤ 9007199254740991 - (u.id.2 : Int) + 1 by omega), Int.toNat_natCast]
      rfl
    (refine Ga ?_)
    refine W_loop (α := Nat) (fun i => [(0, .pointer (some ⟨p, 0, none⟩)), (2, .int .i64 (m : Int)), (4, .pointer (some ⟨b, 0, none⟩)), (7, .int .i64 (i : Int))]) (fun i A => i ≤ m ∧ Grown X1 A ∧ ∀ j, j < i → (u.id.1, u.id.2 + j) ∉ t.ids) (fun i _ => m - i) 0 ⟨Nat.zero_le _, Below.refl _ _, fun j hj => absurd hj (Nat.not_lt_zero _)⟩ ⟨rfl, rfl, rfl, rfl, trivial⟩ ?_
    rintro J i A ⟨hi, hbA, hfr⟩
    have hA := hX1.below hbA
    have kA := k1.below hbA l1
    have kA' := k1'.below hbA l1
    have lA := kA.lt
    have hTA : Turn F F w A := hT1.trans (.of hbA)
    by_cases hil : i < m
    · (refine Ga ?_)
      (apply Lst_call; (focus rfl); (focus rfl))
      refine (r_has (u.id.1, u.id.2 + i) (by omega) hA).mono ?_
      rintro v A1 ⟨⟨x, rfl, hx1, hx2, hx⟩, hbA1⟩
      by_cases h0 : 0 ≤ x
      · have hr : runOk t u (m : Int) = false := by
          rw [hrun]
          have : freeTo t u m = false := by
            cases e : freeTo t u m with
            | false => rfl
            | true => exact absurd (hx.1 h0) (free_iff.1 e i hil)
          rw [this]
          simp
        (refine Ga ?_)
        (apply retQ1; (focus rfl))
        exact ⟨by rw [hr]; rfl, F, by rw [hno hr]; exact hA.below hbA1, hTA.trans (.of hbA1)⟩
      · (refine Ga ?_)
        refine rndQ_n (α := Nat) (i + 1) ⟨hil, hbA.trans (hbA1.mono hbA.size), fun j hj => ?_⟩ ⟨rfl, rfl, rfl, ?_, trivial⟩ (by omega)
        · rcases Nat.lt_succ_iff_lt_or_eq.1 hj with h | rfl
          · exact hfr j h
          · exact fun hm => h0 (hx.2 hm)
        · exact congrArg (Value.int .i64) (by omega)
    · obtain rfl : i = m := by omega
      have hft : freeTo t u i = true := free_iff.2 hfr
      (refine Ga ?_)
      (apply Lst_call; (focus rfl); (focus rfl))
      refine (c_rInsert u t (by omega) hA).mono ?_
      rintro v A1 ⟨rfl, F1, hS1, hTI⟩
      cases hmay : Fo.may t u with
      | false =>
        have hr : runOk t u (i : Int) = false := by
          rw [hrun, hmay]
          rfl
        have hins : (Fo.insert t u).1 = t := by unfold Fo.insert; rw [hmay]; rfl
        rw [hins] at hS1
        (refine Ga ?_)
        (apply retQ1; (focus rfl))
        exact ⟨by rw [hr]; rfl, F1, by rw [hno hr]; exact hS1, hTA.trans hTI⟩
      | true =>
        have hM := Fo.may_iff.1 hmay
        have hr : runOk t u (i : Int) = true := by
          rw [hrun, hmay, hft]
          rfl
        have hfit : ∃ ρ, Fo.Fits ρ none t := by
          obtain ⟨N, ρ, _, hF, _⟩ := h
          exact ⟨ρ, hF⟩
        have hall := trun_may h.good hfit hM hfr hclk
        have hins : (Fo.insert t u).1 = trun t u 1 := by
          unfold Fo.insert
          rw [hmay, trun_succ, trun_zero, nxs_zero]
          rfl
        rw [hins] at hS1
        rw [hr, runR_trun hr, Int.toNat_natCast]
        have k2 := hTI.blk kA' hnF
        have hn2 : ¬ F1 b := fun hf => hnF ((hTI.own _ lA).1 hf)
        have kb : Blk A1 b (ucs (nxs u 0)) 34 := by rw [nxs_zero]; exact k2
        have hTw : Turn F F1 w A1 := hTA.trans hTI
        clear hTI hfr kA kA' hA hbA hTA k1 k1' kX kX' lX l1 hX hX1 hT1 hTX
        have lb := kb.lt
        have hwb : b < A1.heap.size := lb
        (refine Ga ?_)
        refine W_loop (α := Nat × (Nat → Prop)) (fun x => [(0, .pointer (some ⟨p, 0, none⟩)), (2, .int .i64 (i : Int)), (4, .pointer (some ⟨b, 0, none⟩)), (8, .int .i64 ((x.1 + 1 : Nat) : Int))]) (fun x A => x.1 + 1 ≤ i ∧ RefAt A p x.2 (trun t u (x.1 + 1)) ∧ Turn F x.2 w A ∧ Blk A b (ucs (nxs u x.1)) 34 ∧ ¬ x.2 b) (fun x _ => i - x.1) (0, F1) ⟨hm1, hS1, hTw, kb, hn2⟩ ⟨rfl, rfl, rfl, rfl, trivial⟩ ?_
        clear hS1 hTw kb hn2 lb hwb
        rintro J ⟨k, G⟩ A ⟨hk, hS, hT, kb, hnb⟩
        dsimp only at hk hS hT kb hnb ⊢
        have lb := kb.lt
        by_cases hkl : k + 1 < i
        · obtain ⟨_, _, hsz, _, hmy⟩ := hall (k + 1) (by omega)
          have hmy := hmy hkl
          rw [nxs_succ] at hmy
          have hv2 : (nxs u k).id.2 + 1 ≤ 9007199254740992 := by
            show u.id.2 + k + 1 ≤ _
            omega
          unfold ucs at kb
          obtain ⟨W2, hW2⟩ : ∃ W2, (A.putObj b (.cells [.int .u64 ((nxs u k).id.1 : Int), .int .u64 ((nxs u k).id.2 : Int), .int .u64 ((nxs u k).id.1 : Int), .int .u64 ((nxs u k).id.2 : Int), .int .u64 ((nxs u k).r.1 : Int), .int .u64 ((nxs u k).r.2 : Int)].toArray 34)).putObj b (.cells [.int .u64 ((nxs u k).id.1 : Int), .int .u64 (((nxs u k).id.2 : Int) + 1), .int .u64 ((nxs u k).id.1 : Int), .int .u64 ((nxs u k).id.2 : Int), .int .u64 ((nxs u k).r.1 : Int), .int .u64 ((nxs u k).r.2 : Int)].toArray 34) = W2 := ⟨_, rfl⟩
          have kW2 : Blk W2 b (ucs ⟨(u.id.1, u.id.2 + (k + 1)), (u.id.1, u.id.2 + k), u.r⟩) 34 := by
            rw [← hW2]
            exact Blk.put_same (by rw [World.putObj_size]; exact lb) _ _
          have hS2 : RefAt W2 p G (trun t u (k + 1)) := by rw [← hW2]; exact (hS.put hnb _).put hnb _
          have hT2 : Turn F G w W2 := by rw [← hW2]; exact (hT.putB (Nat.le_of_eq hbe) _).putB (Nat.le_of_eq hbe) _
          have l2 := kW2.lt
          have kW2' := kW2
          unfold ucs at kW2
          (refine Ga ?_)
          rw [hW2]
          clear hW2
          (apply Lst_call; (focus rfl); (focus rfl))
          refine (c_rInsert ⟨(u.id.1, u.id.2 + (k + 1)), (u.id.1, u.id.2 + k), u.r⟩ (trun t u (k + 1)) (by omega) hS2).mono ?_
          rintro v A3 ⟨rfl, G3, hS3, hT3⟩
          have hins : (Fo.insert (trun t u (k + 1)) ⟨(u.id.1, u.id.2 + (k + 1)), (u.id.1, u.id.2 + k), u.r⟩).1 = trun t u (k + 1 + 1) := by
            rw [trun_succ t u (k + 1), nxs_succ]
            unfold Fo.insert
            rw [Fo.may_iff.2 hmy]
            rfl
          rw [hins] at hS3
          have k3 := hT3.blk kW2' hnb
          have n3 : ¬ G3 b := fun hf => hnb ((hT3.own _ l2).1 hf)
          (refine Ga ?_)
          refine rndQ_n (α := Nat × (Nat → Prop)) (k + 1, G3) ⟨hkl, hS3, hT2.trans hT3, by rw [nxs_succ]; exact k3, n3⟩ ⟨rfl, rfl, rfl, ?_, trivial⟩ (by dsimp only; omega)
          exact congrArg (Value.int .i64) (by dsimp only; omega)
        · obtain rfl : i = k + 1 := by omega
          (refine Ga ?_)
          (apply retQ1; (focus rfl))
          exact ⟨rfl, G, hS, hT⟩
end Sq
end Go.Proofs.Ytmammcgdjjldbaa
