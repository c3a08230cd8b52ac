/- Merged: SqRunsP, SqPlP, SqPlR, SqTwo, SqRow, SqRowU, SqAll, SqAnP. -/
import Derived.Test.YtmgipnckojopcaaGreatPcJSqNToSqRe
import Derived.Test.YtmgipnckojopcaaGreatPcJSqRfToSqRh
import Derived.Test.YtmgipnckojopcaaGreatPcJSxRToSxF
import Derived.Test.YtmgipnckojopcaaGreatPcJPlaceToSqW
import Derived.Test.YtmgipnckojopcaaGreatPcSxB
import Derived.ProofKit
import Derived.OpenShut
import Derived.Carry
import Derived.SizedLaws
import Derived.Test.YtmgipnckojopcaaGreatPcSxC
import Derived.Test.YtmgipnckojopcaaGreatPcJSqVToSqT
namespace Go.Proofs.YtmgipnckojopcaaGreat
set_option maxRecDepth 100000
namespace Sq
open Go Go.RowKit Sx Tl
/-- The run's units. -/
def nxs (u : Un) (i : Nat) : Un := ⟨(u.id.1, u.id.2 + i), if i = 0 then u.l else (u.id.1, u.id.2 + i - 1), u.r⟩
theorem nxs_zero (u : Un) : nxs u 0 = u := rfl
theorem nxs_succ (u : Un) (i : Nat) : nxs u (i + 1) = ⟨(u.id.1, u.id.2 + (i + 1)), (u.id.1, u.id.2 + i), u.r⟩ := by
  unfold nxs
  rw [if_neg (Nat.succ_ne_zero i)]
  rfl
theorem nx_nxs (u : Un) (i : Nat) : nx (nxs u i) = nxs u (i + 1) := by
  rw [nxs_succ]
  rfl
def trun (t : Fo) (u : Un) (k : Nat) : Fo := Fo.putL t ((List.range k).map (nxs u))
theorem trun_zero (t : Fo) (u : Un) : trun t u 0 = t := rfl
theorem trun_succ (t : Fo) (u : Un) (k : Nat) : trun t u (k + 1) = Fo.put (trun t u k) (nxs u k) := by
  unfold trun
  rw [List.range_succ, List.map_append, List.map_singleton, Fo.putL_snoc]
theorem run_trun (t : Fo) (u : Un) : ∀ (j k : Nat), runT (trun t u (k + 1)) (nxs u k) j = trun t u (k + 1 + j)
  | 0, _ => rfl
  | j + 1, k => by
    show runT (Fo.put (trun t u (k + 1)) (nx (nxs u k))) (nx (nxs u k)) j = _
    rw [nx_nxs, ← trun_succ, run_trun t u j (k + 1)]
    congr 1
    omega
namespace Fo
end Fo
/-- Where a run goes: between neighbours. -/
structure Site (t : Fo) (u : Un) (A B : List Un) (m : Nat) : Prop where
  good : Fo.Good t
  fits : ∃ ρ, Fo.Fits ρ none t
  flat : t.flat = A ++ B
  l : (u.l = Fo.none' ∧ A = []) ∨ (∃ A' a, A = A' ++ [a] ∧ a.id = u.l)
  r : (u.r = Fo.none' ∧ B = []) ∨ (∃ b B', B = b :: B' ∧ b.id = u.r)
  free : ∀ i, i < m → (u.id.1, u.id.2 + i) ∉ t.ids
  num : 1 ≤ u.id.1 ∧ u.id.1 ≤ 9007199254740991 ∧ 1 ≤ u.id.2 ∧ u.id.2 + m ≤ 9007199254740992
end Sq
namespace Sq
open Go Go.RowKit Sx Tl
theorem fits_put {ρ : Id → Rec} {t : Fo} {u : Un} (hg : Fo.Good t) (hF : Fo.Fits ρ none t) (hm : Fo.Can t u) : ∃ σ, Fo.Fits σ none (Fo.put t u) := by
  obtain ⟨rc, c, V, P, hP⟩ := puts hg hF hm
  exact ⟨_, hP.fits⟩
/-- A run that is taken: each unit may when it comes. -/
theorem trun_may {t : Fo} {u : Un} {m : Nat} (hg : Fo.Good t) (hF : ∃ ρ, Fo.Fits ρ none t) (hM : Fo.May t u) (hfree : ∀ i, i < m → (u.id.1, u.id.2 + i) ∉ t.ids) (hc : u.id.2 + m ≤ 9007199254740992) : ∀ i, i ≤ m →
    Fo.Good (trun t u i) ∧ (∃ ρ, Fo.Fits ρ none (trun t u i)) ∧ (trun t u i).sz = t.sz + i ∧ (∀ k, k ∈ (trun t u i).ids ↔ k ∈ t.ids ∨ ∃ j, j < i ∧ k = (u.id.1, u.id.2 + j)) ∧ (i < m → Fo.May (trun t u i) (nxs u i))
  | 0, _ => ⟨hg, hF, rfl, fun k => ⟨.inl, fun h => h.elim id fun ⟨j, hj, _⟩ => absurd hj (Nat.not_lt_zero _)⟩, fun _ => by rw [nxs_zero]; exact hM⟩
  | i + 1, hi => by
    obtain ⟨h1, ⟨ρ, h2⟩, h3, h4, h5⟩ := trun_may hg hF hM hfree hc i (by omega)
    have h5 := h5 (by omega)
    rw [trun_succ]
    have hg2 := h1.put h5.toCan
    obtain ⟨A, B, b1, b2, b3, b4⟩ := Fo.between h1 h2 h5
    have hid : (nxs u i).id = (u.id.1, u.id.2 + i) := rfl
    have hids : ∀ k, k ∈ (Fo.put (trun t u i) (nxs u i)).ids ↔ k ∈ t.ids ∨ ∃ j, j < i + 1 ∧ k = (u.id.1, u.id.2 + j) := fun k => by
      rw [Fo.put_ids h1.nd, h4, hid]
      constructor
      · rintro (h | h | ⟨j, hj, h⟩)
        · exact .inr ⟨i, Nat.lt_succ_self i, h⟩
        · exact .inl h
        · exact .inr ⟨j, by omega, h⟩
      · rintro (h | ⟨j, hj, h⟩)
        · exact .inr (.inl h)
        · rcases Nat.lt_succ_iff_lt_or_eq.1 hj with hj | rfl
          · exact .inr (.inr ⟨j, hj, h⟩)
          · exact .inl h
    refine ⟨hg2, fits_put h1 h2 h5.toCan, by rw [Fo.put_sz h1.nd, h3]; omega, hids, fun hlt => ?_⟩
    rw [nxs_succ]
    have hr := h5.right
    unfold Fo.rightId Fo.num at hr
    simp only [Bool.and_eq_true, decide_eq_true_eq] at hr
    rw [hid] at hr
    dsimp only at hr
    refine ⟨⟨?_, fun hm => ?_, .inr ((Fo.put_ids h1.nd _).2 (.inl rfl)), ?_⟩, ?_⟩
    · unfold Fo.rightId Fo.num
      simp only [Bool.and_eq_true, decide_eq_true_eq]
      omega
    · rcases (hids _).1 hm with h | ⟨j, hj, h⟩
      · exact hfree (i + 1) hlt h
      · have := congrArg Prod.snd h
        dsimp only at this
        omega
    · show u.r = Fo.none' ∨ u.r ∈ _
      rcases h5.r with h | h
      · exact .inl h
      · exact .inr ((Fo.put_ids h1.nd _).2 (.inr h))
    · show _ ∨ u.r = Fo.none' ∨ _ < Fo.pos _ u.r
      by_cases h : u.r = Fo.none'
      · exact .inr (.inl h)
      · refine .inr (.inr ?_)
        have p1 := Fo.pos_at hg2.nd b2
        have p2 := Fo.pos_ge (A := A ++ [nxs u i]) (B := B) hg2.nd (by rw [b2]; simp) (b4 h)
        rw [hid] at p1
        rw [List.length_append, List.length_singleton] at p2
        show Fo.pos _ (u.id.1, u.id.2 + i) < _
        have e : (nxs u i).r = u.r := rfl
        rw [e] at p2
        omega
/-- What the program's Run leaves, as a run. -/
theorem runR_trun {t : Fo} {u : Un} {n : Int} (h : runOk t u n = true) : runR t u n = trun t u n.toNat := by
  unfold runR
  rw [h, if_pos rfl]
  have hn : 1 ≤ n := by
    unfold runOk at h
    simp only [Bool.and_eq_true, decide_eq_true_eq] at h
    exact h.1
  have := run_trun t u (n.toNat - 1) 0
  rw [trun_succ, trun_zero, nxs_zero] at this
  rw [this]
  congr 1
  omega
end Sq
namespace Sq
open Go Go.RowKit Sx Tl
variable {w : World} {p : Nat} {F : Nat → Prop} {t : Fo}
theorem r_has (k : Id) (hs : t.sz ≤ 1000000000) (h : RefAt w p F t) : Does Tryz.prog 55 #[.pointer (some ⟨p, 0, none⟩), idv k] w fun v w' => (∃ x : Int, v = .int .i64 x ∧ -1 ≤ x ∧ x ≤ 1000000000 ∧ (0 ≤ x ↔ k ∈ t.ids)) ∧ Below w.heap.size w w' := by
  obtain ⟨N, ρ, h, hF, hg, hn, hN⟩ := h
  have hlen := len_of hn hg hN
  refine (c_rfind k hn (fun j hj => fits_u hF j ((hN j).1 hj)) (by omega) h).mono ?_
  rintro v w' ⟨rfl, hb⟩
  refine ⟨⟨fx N k, rfl, ?_⟩, hb⟩
  unfold fx
  by_cases hk : k ∈ N
  · have h1 := List.idxOf_lt_length_of_mem hk
    rw [if_pos hk]
    unfold ix
    refine ⟨by omega, by omega, fun _ => (hN k).1 hk, fun _ => by omega⟩
  · rw [if_neg hk]
    exact ⟨by omega, by omega, fun h => by omega, fun h => absurd ((hN k).2 h) hk⟩
theorem Turn.putB {F F' : Nat → Prop} {w w' : World} (h : Turn F F' w w') {b : Nat} (hb : w.heap.size ≤ b) (o : Obj) : Turn F F' w (w'.putObj b o) :=
  ⟨h.os, h.tape, h.output, by rw [World.putObj_size]; exact h.size, h.own, fun g hg hn => (World.putObj_heap_other (by omega)).trans (h.block g hg hn)⟩
attribute [local irreducible] W Lst Qst Pu seqQ blkQ rndQ cutQ retQ Does Enters IntKind.wrap bits sb World.alloc World.putObj Blk
set_option maxHeartbeats 4000000 in
theorem c_rRun (u : Un) (n : Int) (hs : t.sz ≤ 100000) (hn : n ≤ 1000) (hn0 : -9223372036854775808 ≤ n) (h : RefAt w p F t) :
    Does Tryz.prog 26 #[.pointer (some ⟨p, 0, none⟩), .agg (ucs u).toArray, .int .i64 n] w fun v w' => v = .bool (runOk t u n) ∧ ∃ F', RefAt w' p F' (runR t u n) ∧ Turn F F' w w' := by
  refine Does_of (args := [.pointer (some ⟨p, 0, none⟩), .agg (ucs u).toArray, .int .i64 n]) Tryz.func26 (by kernel_rfl) rfl rfl rfl rfl rfl ?_
  have hno : runOk t u n = false → runR t u n = t := fun e => by unfold runR; rw [e]; rfl
  (refine Ga ?_)
  obtain ⟨X, hXe⟩ : ∃ X, w.alloc (.cells (ucs u).toArray 52) = X := ⟨_, rfl⟩
  have hbX : Below w.heap.size w X := by rw [← hXe]; exact Bel
  have kX : Blk X w.heap.size (ucs u) 52 := by rw [← hXe]; exact (by (repeat (first | assumption | (apply Blk.below (hb := hb1); rotate_left; (focus ((try simp only [Sx.sizes]); omega)); rotate_right) | (apply Blk.below (hb := hb2); rotate_left; (focus ((try simp only [Sx.sizes]); omega)); rotate_right) | (apply Blk.below (hb := hb3); rotate_left; (focus ((try simp only [Sx.sizes]); omega)); rotate_right) | (apply Blk.below (hb := hb4); rotate_left; (focus ((try simp only [Sx.sizes]); omega)); rotate_right) | (apply Blk.below (hb := hb5); rotate_left; (focus ((try simp only [Sx.sizes]); omega)); rotate_right) | (apply Blk.below (hb := hb6); rotate_left; (focus ((try simp only [Sx.sizes]); omega)); rotate_right) | (apply Blk.below (hb := hb7); rotate_left; (focus ((try simp only [Sx.sizes]); omega)); rotate_right) | (apply Blk.below (hb := hb8); rotate_left; (focus ((try simp only [Sx.sizes]); omega)); rotate_right) | (apply Blk.below (hb := hb9); rotate_left; (focus ((try simp only [Sx.sizes]); omega)); rotate_right) | exact Blk.newE (by first | rfl | ((try simp only [Sx.sizes]); first | done | omega)) _ _ | exact Blk.put_same (by (try simp only [Sx.sizes]); first | done | omega) _ _ | (apply Blk.put_ne; (focus omega)) | apply Blk.alloc | apply Blk.drew)); done)
  rw [hXe]
  clear hXe
  have hX := h.below hbX
  have hTX : Turn F F w X := .of hbX
  have hnF : ¬ F w.heap.size := fun hf => by have := h.lt hf; omega
  generalize hbe : w.heap.size = b at *
  have lX := kX.lt
  have kX' := kX
  unfold ucs at kX
  by_cases h1 : n < 1
  · have hr : runOk t u n = false := by
      unfold runOk
      rw [decide_eq_false (show ¬ (1 ≤ n) by omega)]
      rfl
    (refine Ga ?_)
    (apply retQ1; (focus rfl))
    exact ⟨by rw [hr]; rfl, F, by rw [hno hr]; exact hX, hTX⟩
  (refine Ga ?_)
  (apply Lst_call; (focus rfl); (focus rfl))
  refine (r_Right u.id X).mono ?_
  rintro v X1 ⟨rfl, hb1⟩
  have hX1 := hX.below hb1
  have hT1 : Turn F F w X1 := hTX.trans (.of hb1)
  have k1 := kX.below hb1 lX
  have k1' := kX'.below hb1 lX
  have l1 := k1.lt
  cases hR : Fo.rightId u.id with
  | false =>
    have hr : runOk t u n = false := by
      unfold runOk
      rw [hR]
      simp
    (refine Ga ?_)
    (apply retQ1; (focus rfl))
    exact ⟨by rw [hr]; rfl, F, by rw [hno hr]; exact hX1, hT1⟩
  | true =>
    have hR' := hR
    unfold Fo.rightId Fo.num at hR'
    simp only [Bool.and_eq_true, decide_eq_true_eq] at hR'
    obtain ⟨⟨c1, c2⟩, c3, c4⟩ := hR'
    have hMx : (9007199254740991 : Int) - (u.id.2 : Int) ≥ 0 := by omega
    by_cases h2 : n - 1 > 9007199254740991 - (u.id.2 : Int)
    · have hr : runOk t u n = false := by
        unfold runOk
        rw [decide_eq_false (show ¬ (n ≤ 9007199254740991 - (u.id.2 : Int) + 1) by omega)]
        simp
      (refine Ga ?_)
      (apply retQ1; (focus rfl))
      exact ⟨by rw [hr]; rfl, F, by rw [hno hr]; exact hX1, hT1⟩
    obtain ⟨m, rfl⟩ : ∃ m : Nat, n = (m : Int) := ⟨n.toNat, by omega⟩
    have hm1 : 1 ≤ m := by omega
    have hclk : u.id.2 + m ≤ 9007199254740992 := by omega
    have hrun : runOk t u (m : Int) = (Fo.may t u && freeTo t u m) := by
      unfold runOk
      rw [decide_eq_true (show (1 : Int) ≤ (m : Int) by omega), hR, decide_eq_true (show (m : Int) ≤ 9007199254740991 - (u.id.2 : Int) + 1 by omega), Int.toNat_natCast]
      rfl
    (refine Ga ?_)
    refine W_loop (α := Nat) (fun i => [(0, .pointer (some ⟨p, 0, none⟩)), (2, .int .i64 (m : Int)), (4, .pointer (some ⟨b, 0, none⟩)), (7, .int .i64 (i : Int))]) (fun i A => i ≤ m ∧ Grown X1 A ∧ ∀ j, j < i → (u.id.1, u.id.2 + j) ∉ t.ids) (fun i _ => m - i) 0 ⟨Nat.zero_le _, Below.refl _ _, fun j hj => absurd hj (Nat.not_lt_zero _)⟩ ⟨rfl, rfl, rfl, rfl, trivial⟩ ?_
    rintro J i A ⟨hi, hbA, hfr⟩
    have hA := hX1.below hbA
    have kA := k1.below hbA l1
    have kA' := k1'.below hbA l1
    have lA := kA.lt
    have hTA : Turn F F w A := hT1.trans (.of hbA)
    by_cases hil : i < m
    · (refine Ga ?_)
      (apply Lst_call; (focus rfl); (focus rfl))
      refine (r_has (u.id.1, u.id.2 + i) (by omega) hA).mono ?_
      rintro v A1 ⟨⟨x, rfl, hx1, hx2, hx⟩, hbA1⟩
      by_cases h0 : 0 ≤ x
      · have hr : runOk t u (m : Int) = false := by
          rw [hrun]
          have : freeTo t u m = false := by
            cases e : freeTo t u m with
            | false => rfl
            | true => exact absurd (hx.1 h0) (free_iff.1 e i hil)
          rw [this]
          simp
        (refine Ga ?_)
        (apply retQ1; (focus rfl))
        exact ⟨by rw [hr]; rfl, F, by rw [hno hr]; exact hA.below hbA1, hTA.trans (.of hbA1)⟩
      · (refine Ga ?_)
        refine rndQ_n (α := Nat) (i + 1) ⟨hil, hbA.trans (hbA1.mono hbA.size), fun j hj => ?_⟩ ⟨rfl, rfl, rfl, ?_, trivial⟩ (by omega)
        · rcases Nat.lt_succ_iff_lt_or_eq.1 hj with h | rfl
          · exact hfr j h
          · exact fun hm => h0 (hx.2 hm)
        · exact congrArg (Value.int .i64) (by omega)
    · obtain rfl : i = m := by omega
      have hft : freeTo t u i = true := free_iff.2 hfr
      (refine Ga ?_)
      (apply Lst_call; (focus rfl); (focus rfl))
      refine (c_rInsert u t (by omega) hA).mono ?_
      rintro v A1 ⟨rfl, F1, hS1, hTI⟩
      cases hmay : Fo.may t u with
      | false =>
        have hr : runOk t u (i : Int) = false := by
          rw [hrun, hmay]
          rfl
        have hins : (Fo.insert t u).1 = t := by unfold Fo.insert; rw [hmay]; rfl
        rw [hins] at hS1
        (refine Ga ?_)
        (apply retQ1; (focus rfl))
        exact ⟨by rw [hr]; rfl, F1, by rw [hno hr]; exact hS1, hTA.trans hTI⟩
      | true =>
        have hM := Fo.may_iff.1 hmay
        have hr : runOk t u (i : Int) = true := by
          rw [hrun, hmay, hft]
          rfl
        have hfit : ∃ ρ, Fo.Fits ρ none t := by
          obtain ⟨N, ρ, _, hF, _⟩ := h
          exact ⟨ρ, hF⟩
        have hall := trun_may h.good hfit hM hfr hclk
        have hins : (Fo.insert t u).1 = trun t u 1 := by
          unfold Fo.insert
          rw [hmay, trun_succ, trun_zero, nxs_zero]
          rfl
        rw [hins] at hS1
        rw [hr, runR_trun hr, Int.toNat_natCast]
        have k2 := hTI.blk kA' hnF
        have hn2 : ¬ F1 b := fun hf => hnF ((hTI.own _ lA).1 hf)
        have kb : Blk A1 b (ucs (nxs u 0)) 52 := by rw [nxs_zero]; exact k2
        have hTw : Turn F F1 w A1 := hTA.trans hTI
        clear hTI hfr kA kA' hA hbA hTA k1 k1' kX kX' lX l1 hX hX1 hT1 hTX
        have lb := kb.lt
        have hwb : b < A1.heap.size := lb
        (refine Ga ?_)
        refine W_loop (α := Nat × (Nat → Prop)) (fun x => [(0, .pointer (some ⟨p, 0, none⟩)), (2, .int .i64 (i : Int)), (4, .pointer (some ⟨b, 0, none⟩)), (8, .int .i64 ((x.1 + 1 : Nat) : Int))]) (fun x A => x.1 + 1 ≤ i ∧ RefAt A p x.2 (trun t u (x.1 + 1)) ∧ Turn F x.2 w A ∧ Blk A b (ucs (nxs u x.1)) 52 ∧ ¬ x.2 b) (fun x _ => i - x.1) (0, F1) ⟨hm1, hS1, hTw, kb, hn2⟩ ⟨rfl, rfl, rfl, rfl, trivial⟩ ?_
        clear hS1 hTw kb hn2 lb hwb
        rintro J ⟨k, G⟩ A ⟨hk, hS, hT, kb, hnb⟩
        dsimp only at hk hS hT kb hnb ⊢
        have lb := kb.lt
        by_cases hkl : k + 1 < i
        · obtain ⟨_, _, hsz, _, hmy⟩ := hall (k + 1) (by omega)
          have hmy := hmy hkl
          rw [nxs_succ] at hmy
          have hv2 : (nxs u k).id.2 + 1 ≤ 9007199254740992 := by
            show u.id.2 + k + 1 ≤ _
            omega
          unfold ucs at kb
          obtain ⟨W2, hW2⟩ : ∃ W2, (A.putObj b (.cells [.int .u64 ((nxs u k).id.1 : Int), .int .u64 ((nxs u k).id.2 : Int), .int .u64 ((nxs u k).id.1 : Int), .int .u64 ((nxs u k).id.2 : Int), .int .u64 ((nxs u k).r.1 : Int), .int .u64 ((nxs u k).r.2 : Int)].toArray 52)).putObj b (.cells [.int .u64 ((nxs u k).id.1 : Int), .int .u64 (((nxs u k).id.2 : Int) + 1), .int .u64 ((nxs u k).id.1 : Int), .int .u64 ((nxs u k).id.2 : Int), .int .u64 ((nxs u k).r.1 : Int), .int .u64 ((nxs u k).r.2 : Int)].toArray 52) = W2 := ⟨_, rfl⟩
          have kW2 : Blk W2 b (ucs ⟨(u.id.1, u.id.2 + (k + 1)), (u.id.1, u.id.2 + k), u.r⟩) 52 := by
            rw [← hW2]
            exact Blk.put_same (by rw [World.putObj_size]; exact lb) _ _
          have hS2 : RefAt W2 p G (trun t u (k + 1)) := by rw [← hW2]; exact (hS.put hnb _).put hnb _
          have hT2 : Turn F G w W2 := by rw [← hW2]; exact (hT.putB (Nat.le_of_eq hbe) _).putB (Nat.le_of_eq hbe) _
          have l2 := kW2.lt
          have kW2' := kW2
          unfold ucs at kW2
          (refine Ga ?_)
          rw [hW2]
          clear hW2
          (apply Lst_call; (focus rfl); (focus rfl))
          refine (c_rInsert ⟨(u.id.1, u.id.2 + (k + 1)), (u.id.1, u.id.2 + k), u.r⟩ (trun t u (k + 1)) (by omega) hS2).mono ?_
          rintro v A3 ⟨rfl, G3, hS3, hT3⟩
          have hins : (Fo.insert (trun t u (k + 1)) ⟨(u.id.1, u.id.2 + (k + 1)), (u.id.1, u.id.2 + k), u.r⟩).1 = trun t u (k + 1 + 1) := by
            rw [trun_succ t u (k + 1), nxs_succ]
            unfold Fo.insert
            rw [Fo.may_iff.2 hmy]
            rfl
          rw [hins] at hS3
          have k3 := hT3.blk kW2' hnb
          have n3 : ¬ G3 b := fun hf => hnb ((hT3.own _ l2).1 hf)
          (refine Ga ?_)
          refine rndQ_n (α := Nat × (Nat → Prop)) (k + 1, G3) ⟨hkl, hS3, hT2.trans hT3, by rw [nxs_succ]; exact k3, n3⟩ ⟨rfl, rfl, rfl, ?_, trivial⟩ (by dsimp only; omega)
          exact congrArg (Value.int .i64) (by dsimp only; omega)
        · obtain rfl : i = k + 1 := by omega
          (refine Ga ?_)
          (apply retQ1; (focus rfl))
          exact ⟨rfl, G, hS, hT⟩
end Sq
namespace Sq
open Go Go.RowKit Sx Tl
theorem P_idxm {P : Program} {G : Fr} {ty t e b o len c j : Nat} {x y : Operand} {k : IntKind} {i : TypeInfo} {sz : Nat} (hx : ev G x = .slice (some ⟨b, o, none⟩) len c) (hq : ev G y = .int k (j : Int)) (ht : P.underlying t = some (.slice e)) (hi : P.info? e = some i) (hs : i.size = sz) (h1 : j < len) : Pu P G (.indexAddr t x y) ty (.pointer (some ⟨b, o + j * sz, none⟩)) := by
  have := P_idx (ty := ty) hx hq ht hi hs (by omega) (by omega)
  simpa using this
theorem nil_sz : Fo.nil.sz = 0 := rfl
/-- Two sequences that have nothing of one another. -/
structure Two (w0 A : World) (pa : Nat) (Fa : Nat → Prop) (ta : Fo) (pb : Nat) (Fb : Nat → Prop) (tb : Fo) : Prop where
  sa : SqAt A pa Fa ta
  sb : SqAt A pb Fb tb
  dis : ∀ g, Fa g → ¬ Fb g
  la : ∀ g, Fa g → w0.heap.size ≤ g
  lb : ∀ g, Fb g → w0.heap.size ≤ g
  bel : Below w0.heap.size w0 A
variable {w0 A A' : World} {pa pb : Nat} {Fa Fb F' : Nat → Prop} {ta tb t' : Fo}
theorem Two.a (h : Two w0 A pa Fa ta pb Fb tb) (hS : SqAt A' pa F' t') (hT : Turn Fa F' A A') : Two w0 A' pa F' t' pb Fb tb := by
  have h1 := hT.low h.la h.bel.size
  exact ⟨hS, h.sb.other hT fun g hg hf => h.dis g hf hg, fun g hg hb => h.dis g ((hT.own g (h.sb.lt hb)).1 hg) hb, h1.1, h.lb, h.bel.trans h1.2⟩
end Sq
namespace Sq
open Go Go.RowKit Go.ChangeShapes Go.WideShapes Sx
section
variable {H : Type} {enc : TypeId × Value → H} {P : Program}
theorem args_stay (hl : laidOutB P = true) {W W' : World} (hb : Below W.heap.size W W') : ∀ (ts : List TypeId) (vs : List Value) (ds : List (DataW H)) (ps : List MemPlace), (ts.all fun t => P.readableRec t && decide (t < P.types.size)) = true →
    DataW.TrodAll enc P W 0 (fun _ => true) true ts vs ds ps → DataW.TrodAll enc P W' 0 (fun b => decide (b < W.heap.size)) true ts vs ds ps
  | [], vs, ds, ps, _, h => by
    obtain ⟨rfl, rfl, rfl⟩ := trodAll_nil h
    exact trodAll_mk0
  | t :: ts, vs, ds, ps, hr, h => by
    have hlt := DataW.TrodAll.lt h
    obtain ⟨v, vs', d, ds', p, q, rfl, rfl, rfl, h1, h2⟩ := trodAll_cons h
    simp only [List.all_cons, Bool.and_eq_true, decide_eq_true_eq] at hr
    exact trodAll_cons_mk (Below.trod hl hr.1.1 hr.1.2 h1 hb (fun x hx => hlt x (by simp [hx]))) (args_stay hl hb ts vs' ds' q (by simpa using hr.2) h2)
end
end Sq
namespace Sq
open Go Go.RowKit Go.ChangeShapes Go.WideShapes Sx
section
variable {H : Type} {enc : TypeId × Value → H} {P : Program}
end
end Sq
namespace Sq
open Go Go.RowKit Sx Tl
variable {w : World} {p : Nat} {F : Nat → Prop} {t : Fo}
attribute [local irreducible] W Lst Qst Pu seqQ blkQ rndQ cutQ retQ Does Enters IntKind.wrap bits sb World.alloc World.putObj Blk
end Sq
namespace Sq
namespace Fo
/-! ### Those above stay -/
/-! ### Laying commutes -/
theorem put_eq (s : Fo) (u : Un) : put s u = if isL s u then mod u.r (insBy (fun a => lt a.id u.id) u) id s else if u.l ∈ s.ids then mod u.l id (insBy (fun a => ahead s a u) u) s else insBy (fun a => ahead s a u) u s := rfl
/-! ### Units in another order -/
end Fo
end Sq
end Go.Proofs.YtmgipnckojopcaaGreat
