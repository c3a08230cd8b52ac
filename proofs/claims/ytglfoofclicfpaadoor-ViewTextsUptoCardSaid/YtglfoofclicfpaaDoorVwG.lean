/- Both Diffs. -/
import Derived.Test.YtglfoofclicfpaaDoorVwF
namespace Go.Proofs.YtglfoofclicfpaaDoor
set_option maxRecDepth 100000
namespace Vw
open Go Go.RowKit Sx Tl Fl Val Mk
open Utf (rs tl Tabs cutS)
theorem same_at {Q R : List Rv} (hq : Uni (Q.map Prod.fst)) (hr : Uni (R.map Prod.fst)) {i j : Nat} (hi : i < Q.length) (hj : j < R.length) : sameR Q[i].1 R[j].1 = true ↔ (us (Q.map Prod.fst))[i]? = (us (R.map Prod.fst))[j]? := by
  have h1 := uni_get hq (i := i) (by rw [List.length_map]; exact hi)
  have h2 := uni_get hr (i := j) (by rw [List.length_map]; exact hj)
  rw [List.getElem_map] at h1 h2
  have hlq := uni_len hq
  have hlr := uni_len hr
  rw [List.length_map] at hlq hlr
  rw [uni_same (hq _ (List.mem_map_of_mem (List.getElem_mem hi))).1 (hr _ (List.mem_map_of_mem (List.getElem_mem hj))).1 h1 h2, List.getElem?_eq_getElem (by omega), List.getElem?_eq_getElem (by omega), Option.some.injEq]
theorem RunS.sl0 {A : Nat} {w : World} {a : Option Addr} {c : Nat} {P : List Rv} (h : RunS A w (.slice a P.length c) P) (m : Nat) : sliced a 0 m c 7 = .slice a m c := by
  obtain ⟨b, off, cap, hf, _⟩ := h.rows
  rcases hf with hf | ⟨hf, _⟩
  · injection hf with h1 _ h3
    subst h1
    unfold sliced
    split <;> simp [add_none]
  · injection hf with h1 h2 h3
    subst h1
    subst h3
    unfold sliced
    simp
theorem RunS.take {A m c : Nat} {w : World} {a : Option Addr} {P : List Rv} (h : RunS A w (.slice a P.length c) P) (hm : m ≤ P.length) : RunS A w (.slice a m c) (P.take m) := by
  refine ⟨?_, fun p hp => h.mks p (List.mem_of_mem_take hp)⟩
  have := rows_cuthi (ls := P.map pcs) (n := m) (by rw [List.length_map]; exact h.rows) (by rw [List.length_map]; exact hm)
  rw [h.sl0] at this
  rwa [← List.map_take] at this
theorem sliced_cap {a a' : Option Addr} {n l c l' c' : Nat} (h : sliced a n l c 7 = .slice a' l' c') : c' = c - n := by
  unfold sliced at h
  split at h
  · injection h with _ _ h
    exact h.symm
  · injection h with _ _ h
    exact h.symm
section
attribute [local irreducible] RnS RnT
attribute [local irreducible] W Lst Qst Pu seqQ blkQ rndQ cutQ retQ Does Enters IntKind.wrap bits sb World.alloc World.putObj Blk
set_option maxHeartbeats 16000000 in
theorem c_Diff (P L : List Rv) (A : Nat) (a b : Option Addr) (c d : Nat) (w : World) (hA : A ≤ w.heap.size) (h : RunS A w (.slice a P.length c) P) (hl : RunS A w (.slice b L.length d) L) (ok : ∀ p ∈ P, OkR p.1) (okL : ∀ p ∈ L, OkR p.1) (hz : ∀ p ∈ P, p.1.ms.length ≤ 1000000) (hzL : ∀ p ∈ L, p.1.ms.length ≤ 1000000) (ht : tot P ≤ 100000) (htL : tot L ≤ 100000) (hL : lenP P ≤ 100000) (hLL : lenP L ≤ 100000) : Does Tryd.prog 14 #[.slice a P.length c, .slice b L.length d] w fun v w' => (∃ n e kv K, v = .tuple #[.int .i64 ((n : Nat) : Int), .int .i64 (((us (P.map Prod.fst)).length - n - e : Nat) : Int), kv] ∧ IsAt (us (P.map Prod.fst)) (us (L.map Prod.fst)) n ∧ IsEnd (us (P.map Prod.fst)) (us (L.map Prod.fst)) n e ∧ OwnR A w.heap.size w' kv K ∧ Is (K.map Prod.fst) (((us (L.map Prod.fst)).take ((us (L.map Prod.fst)).length - e)).drop n) ∧ ∀ k ∈ K, k.1.ms.length ≤ 1000000) ∧ Below w.heap.size w w' := by
  refine Does_of (args := [.slice a P.length c, .slice b L.length d]) Tryd.func14 (by kernel_rfl) rfl rfl rfl rfl rfl ?_
  (refine Ga ?_)
  (apply Lst_call; (focus rfl); (focus rfl))
  refine (c_units P A a c w hA h ok hz ht hL).mono ?_
  rintro v V ⟨⟨P', hclP, hoQ, hzP⟩, bV⟩
  have sV := bV.size
  have okP' : ∀ p ∈ P', OkR p.1 := fun p hp => hclP.ok p.1 (List.mem_map_of_mem hp)
  obtain ⟨hunQ, husQ⟩ := units_uni okP'
  rw [hclP.us] at husQ
  have hmsQ := units_ms hzP
  have hlQ := flat_len2 P'
  have e1 : lenP P' = lenP P := by unfold lenP; rw [hclP.us]
  rw [e1] at hlQ
  obtain ⟨Q, hQ⟩ : ∃ Q, P'.flatMap splitV = Q := ⟨_, rfl⟩
  rw [hQ] at hoQ hunQ husQ hmsQ hlQ
  obtain ⟨q1, q3, rfl, hq13⟩ := hoQ.form
  (refine Ga ?_)
  (apply Lst_call; (focus rfl); (focus rfl))
  refine (c_units L A b d V (Nat.le_trans hA sV) (hl.below bV) okL hzL htL hLL).mono ?_
  rintro v X ⟨⟨L', hclL, hoR, hzL'⟩, bX⟩
  have sX := bX.size
  have okL' : ∀ p ∈ L', OkR p.1 := fun p hp => hclL.ok p.1 (List.mem_map_of_mem hp)
  obtain ⟨hunR, husR⟩ := units_uni okL'
  rw [hclL.us] at husR
  have hmsR := units_ms hzL'
  have htR := flat_tot okL'
  have hlR := flat_len2 L'
  have e2 : lenP L' = lenP L := by unfold lenP; rw [hclL.us]
  rw [e2] at hlR htR
  obtain ⟨R, hR⟩ : ∃ R, L'.flatMap splitV = R := ⟨_, rfl⟩
  rw [hR] at hoR hunR husR hmsR hlR htR
  obtain ⟨r1, r3, rfl, hr13⟩ := hoR.form
  have bwX := bV.trans (bX.mono sV)
  have hqX := hoQ.read.below bX
  have hrX := hoR.read
  have huQ : (us (Q.map Prod.fst)).length = Q.length := by rw [uni_len hunQ, List.length_map]
  have huR : (us (R.map Prod.fst)).length = R.length := by rw [uni_len hunR, List.length_map]
  have okQ : ∀ q ∈ Q, OkR q.1 := fun q hq => (hunQ q.1 (List.mem_map_of_mem hq)).1
  have okR : ∀ q ∈ R, OkR q.1 := fun q hq => (hunR q.1 (List.mem_map_of_mem hq)).1
  rw [← husQ, ← husR]
  have hAX : A ≤ X.heap.size := Nat.le_trans hA bwX.size
  have swX := bwX.size
  clear hoQ hoR h hl ht htL hz hzL ok okL husQ husR
  (refine Ga ?_)
  refine Tl.W_cutB (α := Nat) (fun n => [(7, .slice q1 Q.length q3), (8, .slice r1 R.length r3), (9, .int .i64 (n : Int))]) (fun n Y => IsAt (us (Q.map Prod.fst)) (us (R.map Prod.fst)) n ∧ Below X.heap.size X Y) ?_ ?_
  · skip
    refine W_loop (α := Nat) (fun n => [(7, .slice q1 Q.length q3), (8, .slice r1 R.length r3), (9, .int .i64 (n : Int))]) (fun n Y => n ≤ Q.length ∧ n ≤ R.length ∧ (∀ i, i < n → (us (Q.map Prod.fst))[i]? = (us (R.map Prod.fst))[i]?) ∧ Below X.heap.size X Y) (fun n _ => Q.length - n) 0 ⟨Nat.zero_le _, Nat.zero_le _, fun i hi => absurd hi (Nat.not_lt_zero _), Below.refl _ _⟩ ⟨rfl, rfl, rfl, trivial⟩ ?_
    rintro J n Y ⟨hnQ, hnR, heq, bY⟩
    have sY := bY.size
    have hZY := Below.drew (Below.refl Y.heap.size Y)
    by_cases h1 : n < Q.length
    · by_cases h2 : n < R.length
      · have hsame := same_at hunQ hunR h1 h2
        obtain ⟨g, off, rfl, _, hc⟩ := (hqX.below bY).at h1
        obtain ⟨g2, off2, rfl, _, hc2⟩ := (hrX.below bY).at h2
        have hmk := (hqX.below bY).mks _ (List.getElem_mem h1)
        have hmk2 := (hrX.below bY).mks _ (List.getElem_mem h2)
        have ok1 := okQ _ (List.getElem_mem h1)
        have ok2 := okR _ (List.getElem_mem h2)
        have hz1 := hmsQ _ (List.getElem_mem h1)
        obtain ⟨x, hx⟩ : ∃ x, Q[n] = x := ⟨_, rfl⟩
        obtain ⟨y, hy⟩ : ∃ y, R[n] = y := ⟨_, rfl⟩
        rw [hx] at hc hmk ok1 hz1 hsame
        rw [hy] at hc2 hmk2 ok2 hsame
        obtain ⟨x, mv⟩ := x
        obtain ⟨y, nv⟩ := y
        obtain ⟨ma, mc, he⟩ := hmk.form
        obtain ⟨na, nc, he2⟩ := hmk2.form
        dsimp only at he he2 ok1 ok2 hz1 hmk hmk2 hsame
        subst he
        subst he2
        (refine Ga ?_)
        refine W_draw 19 (fun Z => Below Y.heap.size Y Z) rfl (by kernel_rfl) hZY ?_
        (refine Qb ?_)
        apply Qst_pu
        · apply P_idxm (j := n) (sz := 7)
          focus rfl
          focus rfl
          focus rfl
          focus rfl
          focus rfl
          focus omega
        focus rfl
        (refine Qb ?_)
        apply Qst_loadS (cs := pcs (x, .slice ma x.ms.length mc))
        focus rfl
        focus rfl
        focus rfl
        focus rfl
        focus rfl
        focus exact fun A9 hA9 j v hj => cell_below hA9 (hc j v hj)
        focus rfl
        (refine Qb ?_)
        apply Qst_pu
        · apply P_idxm (j := n) (sz := 7)
          focus rfl
          focus rfl
          focus rfl
          focus rfl
          focus rfl
          focus omega
        focus rfl
        (refine Qb ?_)
        apply Qst_loadS (cs := pcs (y, .slice na y.ms.length nc))
        focus rfl
        focus rfl
        focus rfl
        focus rfl
        focus rfl
        focus exact fun A9 hA9 j v hj => cell_below hA9 (hc2 j v hj)
        focus rfl
        (refine Qb ?_)
        intro Z hZ
        (refine Ga ?_)
        (apply Lst_call; (focus rfl); (focus rfl))
        refine (c_alike (x, .slice ma x.ms.length mc) (y, .slice na y.ms.length nc) A Z (hmk.below hZ) (hmk2.below hZ) ok1 ok2 hz1).mono ?_
        rintro v O ⟨rfl, hO⟩
        have bO := bY.trans ((hZ.trans (hO.mono hZ.size)).mono sY)
        cases hs : sameR x y with
        | true =>
          (refine Ga ?_)
          refine rndQ_n (α := Nat) (n + 1) ⟨h1, h2, fun i hi => ?_, bO⟩ ⟨rfl, rfl, ?_, trivial⟩ (by omega)
          · by_cases hin : i < n
            · exact heq i hin
            · obtain rfl : i = n := by omega
              exact hsame.1 hs
          · exact congrArg (Value.int .i64) (by omega)
        | false =>
          (refine Ga ?_)
          exact cutQ_n (n : Nat) ⟨⟨by omega, by omega, heq, fun _ _ e => by rw [hsame.2 e] at hs; cases hs⟩, bO⟩ ⟨rfl, rfl, rfl, trivial⟩
      · (refine Ga ?_)
        refine W_draw 19 (fun Z => Below Y.heap.size Y Z) rfl (by kernel_rfl) hZY ?_
        (refine Qb ?_)
        intro Z hZ
        (refine Ga ?_)
        (refine Gf ?_)
        (refine Ga ?_)
        exact cutQ_n (n : Nat) ⟨⟨by omega, by omega, heq, fun _ _ => by omega⟩, bY.trans (hZ.mono sY)⟩ ⟨rfl, rfl, rfl, trivial⟩
    · (refine Ga ?_)
      refine W_draw 19 (fun Z => Below Y.heap.size Y Z) rfl (by kernel_rfl) hZY ?_
      (refine Qb ?_)
      intro Z hZ
      (refine Ga ?_)
      (refine Gf ?_)
      (refine Ga ?_)
      exact cutQ_n (n : Nat) ⟨⟨by omega, by omega, heq, fun _ _ => by omega⟩, bY.trans (hZ.mono sY)⟩ ⟨rfl, rfl, rfl, trivial⟩
  rintro J n Y ⟨hat, bY⟩
  have sY := bY.size
  have hnQ := hat.hU
  have hnR := hat.hV
  rw [huQ] at hnQ
  rw [huR] at hnR
  have hqY0 := (hqX.below bY).sub hq13 (m := n) (n := Q.length) (by omega) (Nat.le_refl _)
  have hrY0 := (hrX.below bY).sub hr13 (m := n) (n := R.length) (by omega) (Nat.le_refl _)
  rw [List.take_length] at hqY0 hrY0
  have bwY := bwX.trans (bY.mono swX)
  obtain ⟨q4, q5, hq5⟩ := hqY0.form
  obtain ⟨r4, r5, hr5⟩ := hrY0.form
  have hlen1 : (Q.drop n).length = Q.length - n := List.length_drop
  have hlen2 : (R.drop n).length = R.length - n := List.length_drop
  have hcap1 : Q.length - n ≤ q5 := by
    have := sliced_cap hq5
    omega
  have hcap2 : R.length - n ≤ r5 := by
    have := sliced_cap hr5
    omega
  rw [hq5] at hqY0
  rw [hr5] at hrY0
  have hsq := hqY0.sl0
  have hsr := hrY0.sl0
  have hqY : RunS A Y (.slice q4 (Q.drop n).length q5) (Q.drop n) := hqY0
  have hrY : RunS A Y (.slice r4 (R.drop n).length r5) (R.drop n) := hrY0
  clear hqX hrX hqY0 hrY0
  (refine Ga ?_)
  refine W_draws (fun Z => Below Y.heap.size Y Z) rfl (by kernel_rfl) (Below.drew (Below.refl _ _)) ?_
  (refine Qb ?_)
  apply Qst_pu
  · apply P_lslice_lo (m := (n : Int)) (sz := 7)
    focus rfl
    focus rfl
    focus rfl
    focus rfl
    focus rfl
    focus omega
    focus omega
  focus rfl
  (refine Qb ?_)
  apply Qst_pu
  · apply P_lslice_lo (m := (n : Int)) (sz := 7)
    focus rfl
    focus rfl
    focus rfl
    focus rfl
    focus rfl
    focus omega
    focus omega
  focus rfl
  (refine Qb ?_)
  rw [Int.toNat_natCast]
  erw [hq5, hr5]
  rw [hlen1, hlen2]
  rw [hlen1] at hq5
  rw [hlen2] at hr5
  intro Z0 hZ0
  have hqY2 := hqY.below hZ0
  have hrY2 := hrY.below hZ0
  have bwY2 := bwY.trans (hZ0.mono bwY.size)
  clear bY sY hZ0 hqY hrY bwY
  obtain ⟨hqY, hrY, bwY⟩ := And.intro hqY2 (And.intro hrY2 bwY2)
  clear hqY2 hrY2 bwY2
  generalize Z0 = Y at *
  (refine Ga ?_)
  refine Tl.W_cutB (α := Nat) (fun e => [(7, .slice q4 (Q.length - n - e) q5), (8, .slice r4 (R.length - n - e) r5), (9, .int .i64 (n : Int))]) (fun e Z => IsEnd (us (Q.map Prod.fst)) (us (R.map Prod.fst)) n e ∧ Below Y.heap.size Y Z) ?_ ?_
  · skip
    refine W_loop (α := Nat) (fun e => [(7, .slice q4 (Q.length - n - e) q5), (8, .slice r4 (R.length - n - e) r5), (9, .int .i64 (n : Int))]) (fun e Z => n + e ≤ Q.length ∧ n + e ≤ R.length ∧ (∀ i, i < e → (us (Q.map Prod.fst))[(us (Q.map Prod.fst)).length - 1 - i]? = (us (R.map Prod.fst))[(us (R.map Prod.fst)).length - 1 - i]?) ∧ Below Y.heap.size Y Z) (fun e _ => Q.length - e) 0 ⟨by omega, by omega, fun i hi => absurd hi (Nat.not_lt_zero _), Below.refl _ _⟩ ⟨hq5, hr5, rfl, trivial⟩ ?_
    rintro J e Z ⟨heQ, heR, heq, bZ⟩
    have sZ := bZ.size
    have hZZ := Below.drew (Below.refl Z.heap.size Z)
    by_cases h1 : e < Q.length - n
    · by_cases h2 : e < R.length - n
      · skip
        obtain ⟨k1, hk1⟩ : ∃ k, Q.length - n - e = k + 1 := ⟨Q.length - n - e - 1, by omega⟩
        obtain ⟨k2, hk2⟩ : ∃ k, R.length - n - e = k + 1 := ⟨R.length - n - e - 1, by omega⟩
        have hi1 : Q.length - 1 - e = n + k1 := by omega
        have hj1 : R.length - 1 - e = n + k2 := by omega
        have hi2 : n + k1 < Q.length := by omega
        have hj2 : n + k2 < R.length := by omega
        have hsame := same_at hunQ hunR hi2 hj2
        have ar1 : arith .sub .i64 ((k1 + 1 : Nat) : Int) 1 = (k1 : Int) := (wi64 (by omega) (by omega)).trans (by omega)
        have ar2 : arith .sub .i64 ((k2 + 1 : Nat) : Int) 1 = (k2 : Int) := (wi64 (by omega) (by omega)).trans (by omega)
        obtain ⟨g, off, rfl, _, hc⟩ := (hqY.below bZ).at (i := k1) (by omega)
        obtain ⟨g2, off2, rfl, _, hc2⟩ := (hrY.below bZ).at (i := k2) (by omega)
        rw [List.getElem_drop] at hc hc2
        have hmk := (hqY.below bZ).mks (Q[n + k1]) (List.mem_drop_iff_getElem.2 ⟨k1, by omega, rfl⟩)
        have hmk2 := (hrY.below bZ).mks (R[n + k2]) (List.mem_drop_iff_getElem.2 ⟨k2, by omega, rfl⟩)
        have ok1 := okQ _ (List.getElem_mem hi2)
        have ok2 := okR _ (List.getElem_mem hj2)
        have hz1 := hmsQ _ (List.getElem_mem hi2)
        rw [hk1, hk2]
        obtain ⟨x, hx⟩ : ∃ x, Q[n + k1] = x := ⟨_, rfl⟩
        obtain ⟨y, hy⟩ : ∃ y, R[n + k2] = y := ⟨_, rfl⟩
        rw [hx] at hc hmk ok1 hz1 hsame
        rw [hy] at hc2 hmk2 ok2 hsame
        obtain ⟨x, mv⟩ := x
        obtain ⟨y, nv⟩ := y
        obtain ⟨ma, mc, he⟩ := hmk.form
        obtain ⟨na, nc, he2⟩ := hmk2.form
        dsimp only at he he2 ok1 ok2 hz1 hmk hmk2 hsame
        subst he
        subst he2
        (refine Ga ?_)
        refine W_draw 21 (fun Y => Below Z.heap.size Z Y) rfl (by kernel_rfl) hZZ ?_
        (refine Qb ?_)
        apply Qst_pu
        · apply P_idxm (j := k1) (sz := 7)
          focus rfl
          focus rfl
          focus rfl
          focus rfl
          focus rfl
          focus omega
        focus rfl
        (refine Qb ?_)
        apply Qst_loadS (cs := pcs (x, .slice ma x.ms.length mc))
        focus rfl
        focus rfl
        focus rfl
        focus rfl
        focus rfl
        focus exact fun A9 hA9 j v hj => cell_below hA9 (hc j v hj)
        focus rfl
        (refine Qb ?_)
        apply Qst_pu
        · apply P_idxm (j := k2) (sz := 7)
          focus rfl
          focus rfl
          focus rfl
          focus rfl
          focus rfl
          focus omega
        focus rfl
        (refine Qb ?_)
        apply Qst_loadS (cs := pcs (y, .slice na y.ms.length nc))
        focus rfl
        focus rfl
        focus rfl
        focus rfl
        focus rfl
        focus exact fun A9 hA9 j v hj => cell_below hA9 (hc2 j v hj)
        focus rfl
        (refine Qb ?_)
        intro Y2 hZ
        (refine Ga ?_)
        (apply Lst_call; (focus rfl); (focus rfl))
        refine (c_alike (x, .slice ma x.ms.length mc) (y, .slice na y.ms.length nc) A Y2 (hmk.below hZ) (hmk2.below hZ) ok1 ok2 hz1).mono ?_
        rintro v O ⟨rfl, hO⟩
        have bO := bZ.trans ((hZ.trans (hO.mono hZ.size)).mono sZ)
        cases hs : sameR x y with
        | true =>
          (refine Ga ?_)
          refine W_draws (fun Y2 => Below O.heap.size O Y2) rfl (by kernel_rfl) (Below.drew (Below.refl _ _)) ?_
          (refine Qb ?_)
          apply Qst_pu
          · apply P_lslice_hi (m' := (k1 : Int)) (sz := 7)
            focus rfl
            focus rfl
            focus rfl
            focus rfl
            focus rfl
            focus omega
            focus omega
          focus rfl
          (refine Qb ?_)
          apply Qst_pu
          · apply P_lslice_hi (m' := (k2 : Int)) (sz := 7)
            focus rfl
            focus rfl
            focus rfl
            focus rfl
            focus rfl
            focus omega
            focus omega
          focus rfl
          (refine Qb ?_)
          rw [Int.toNat_natCast, Int.toNat_natCast]
          erw [hsq, hsr]
          intro O2 hO2
          (refine Ga ?_)
          refine rndQ_n (α := Nat) (e + 1) ⟨by omega, by omega, fun i hi => ?_, bO.trans (hO2.mono bO.size)⟩ ⟨?_, ?_, rfl, trivial⟩ (by omega)
          · by_cases hin : i < e
            · exact heq i hin
            · obtain rfl : i = e := by omega
              rw [huQ, huR, hi1, hj1]
              exact hsame.1 hs
          · rw [show Q.length - n - (e + 1) = k1 by omega]
            exact hsq k1
          · rw [show R.length - n - (e + 1) = k2 by omega]
            exact hsr k2
        | false =>
          (refine Ga ?_)
          exact cutQ_n (e : Nat) ⟨⟨by omega, by omega, heq, fun _ _ e => by rw [huQ, huR, hi1, hj1] at e; rw [hsame.2 e] at hs; cases hs⟩, bO⟩ ⟨by rw [hk1]; rfl, by rw [hk2]; rfl, rfl, trivial⟩
      · (refine Ga ?_)
        refine W_draw 21 (fun O => Below Z.heap.size Z O) rfl (by kernel_rfl) hZZ ?_
        (refine Qb ?_)
        intro O hO
        (refine Ga ?_)
        (refine Gf ?_)
        (refine Ga ?_)
        exact cutQ_n (e : Nat) ⟨⟨by omega, by omega, heq, fun _ _ => by omega⟩, bZ.trans (hO.mono sZ)⟩ ⟨rfl, rfl, rfl, trivial⟩
    · (refine Ga ?_)
      refine W_draw 21 (fun O => Below Z.heap.size Z O) rfl (by kernel_rfl) hZZ ?_
      (refine Qb ?_)
      intro O hO
      (refine Ga ?_)
      (refine Gf ?_)
      (refine Ga ?_)
      exact cutQ_n (e : Nat) ⟨⟨by omega, by omega, heq, fun _ _ => by omega⟩, bZ.trans (hO.mono sZ)⟩ ⟨rfl, rfl, rfl, trivial⟩
  rintro J e Z ⟨hend, bZ⟩
  have sZ := bZ.size
  have heQ := hend.hU
  have heR := hend.hV
  rw [huQ] at heQ
  rw [huR] at heR
  have bwZ := bwY.trans (bZ.mono bwY.size)
  obtain ⟨m, hm⟩ : ∃ m, R.length - n - e = m := ⟨_, rfl⟩
  have hlm : ((R.drop n).take m).length = m := by rw [List.length_take]; omega
  have hsub := (hrY.below bZ).take (m := m) (by omega)
  have key := c_Clean ((R.drop n).take m) A r4 r5 Z (Nat.le_trans hA bwZ.size) (by rw [hlm]; exact hsub) (fun k hk => okR k (List.mem_of_mem_drop (List.mem_of_mem_take hk))) (fun k hk => hmsR k (List.mem_of_mem_drop (List.mem_of_mem_take hk))) (by have h1 := tot_drop_le R n; have h2 := tot_take_le (R.drop n) m; omega)
  rw [hlm] at key
  rw [hm]
  (refine Ga ?_)
  (apply Lst_call; (focus rfl); (focus rfl))
  refine key.mono ?_
  rintro v O ⟨⟨K, hoK, hcl, _, hzK⟩, bO⟩
  (refine Ga ?_)
  refine retQ3 rfl rfl rfl ?_
  refine ⟨⟨n, e, _, K, by rw [huQ]; rfl, hat, hend, hoK.low bwZ.size, ⟨hcl.ok, hcl.neat, ?_⟩, hzK⟩, bwZ.trans (bO.mono bwZ.size)⟩
  rw [hcl.us, List.map_take, List.map_drop, huR]
  have hun2 : Uni ((R.map Prod.fst).drop n) := fun r hr => hunR r (List.mem_of_mem_drop hr)
  rw [uni_take hun2, uni_drop hunR, List.drop_take]
  congr 1
  omega
end
end Vw
end Go.Proofs.YtglfoofclicfpaaDoor
