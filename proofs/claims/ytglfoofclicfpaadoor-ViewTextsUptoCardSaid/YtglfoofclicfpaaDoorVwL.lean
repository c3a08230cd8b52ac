/- Which runs are looked at. -/
import Derived.Test.YtglfoofclicfpaaDoorVwU
import Derived.Test.YtglfoofclicfpaaDoorSxF
namespace Go.Proofs.YtglfoofclicfpaaDoor
set_option maxRecDepth 100000
namespace Vw
open Go Go.RowKit Sx Tl Fl Val Mk
open Utf (rs tl Tabs cutS)
/-- What a run weighs. -/
def wtM (q : Mk) : Nat := q.1.size + q.2.s.size
def wtMs (l : List Mk) : Nat := (l.map wtM).sum
def wtR (r : Rn) : Nat := 1 + r.tx.size + r.v.s.size + 3 * r.ms.length + wtMs r.ms
def wts (L : List Rn) : Nat := (L.map wtR).sum
/-- What any argument is: no text beyond these bounds. -/
structure Raw (r : Rn) : Prop where
  tx : r.tx.size ≤ 2000000
  fit : r.v.Fit
  vs : r.v.s.size ≤ 2000000
  ml : r.ms.length ≤ 2000000
  ms : ∀ q ∈ r.ms, q.1.size ≤ 2000000 ∧ q.2.Fit ∧ q.2.s.size ≤ 2000000
theorem wtMs_take {l : List Mk} {i : Nat} (h : i < l.length) : wtMs (l.take (i + 1)) = wtMs (l.take i) + wtM l[i] := by
  unfold wtMs
  rw [List.take_succ_eq_append_getElem h, List.map_append, List.sum_append]
  simp
theorem wts_take {L : List Rn} {i : Nat} (h : i < L.length) : wts (L.take (i + 1)) = wts (L.take i) + wtR L[i] := by
  unfold wts
  rw [List.take_succ_eq_append_getElem h, List.map_append, List.sum_append]
  simp
theorem okV_null {x : Vl} (h : okV x = true) (hk : x.k = 0) : x = zeroV := by
  unfold okV at h
  rw [if_pos (.inl hk)] at h
  obtain ⟨k, n, f, s⟩ := x
  obtain ⟨rfl, rfl, rfl⟩ := of_decide_eq_true h
  dsimp only at hk
  subst hk
  rfl
/-- Runs that are looked at. -/
structure Light (L : List Rn) : Prop where
  len : L.length ≤ 100
  ok : ∀ r ∈ L, OkR r
  wt : wts L ≤ 2000
theorem valv_eq (x : Vl) : Value.agg (#[.int .i64 x.k, .int .i64 x.n, .float .f64 x.f, .string x.s] : Array Value) = x.v := rfl
section
attribute [local irreducible] RnS RnT
attribute [local irreducible] W Lst Qst Pu seqQ blkQ rndQ cutQ retQ Does Enters IntKind.wrap bits sb World.alloc World.putObj Blk
set_option maxHeartbeats 16000000 in
theorem c_light14 (P : List Rv) (A0 : Nat) (a : Option Addr) (c : Nat) (w : World) (h : RunS A0 w (.slice a P.length c) P) (hl : P.length ≤ 2000000) (hraw0 : ∀ p ∈ P, Raw p.1) :
    Does Tryd.prog 5 #[.slice a P.length c] w fun v w' => (∃ b, v = .bool b ∧ (b = true → Light (P.map Prod.fst))) ∧ Below w.heap.size w w' := by
  refine Does_of (args := [.slice a P.length c]) Tryd.func5 (by kernel_rfl) rfl rfl rfl rfl rfl ?_
  (refine Ga ?_)
  refine W_loop (α := Nat × Nat) (fun x => [(0, .slice a P.length c), (3, .int .i64 (x.2 : Int)), (4, .int .i64 (x.1 : Int))]) (fun x A => x.1 ≤ P.length ∧ x.2 = wts ((P.map Prod.fst).take x.1) ∧ (∀ j (h : j < P.length), j < x.1 → OkR P[j].1) ∧ Below w.heap.size w A) (fun x _ => P.length - x.1) (0, 0) ⟨Nat.zero_le _, rfl, fun j _ h => absurd h (Nat.not_lt_zero _), Below.refl _ _⟩ ⟨rfl, rfl, rfl, trivial⟩ ?_
  rintro J ⟨i, n⟩ A ⟨hi, hn, hok, bA⟩
  dsimp only at hi hn hok bA ⊢
  by_cases hil : i < P.length
  · by_cases hnl : n ≤ 2000
    · have hX := h.below bA
      obtain ⟨g, off, rfl, _, hc⟩ := hX.at hil
      have hmk := hX.mks _ (List.getElem_mem hil)
      have hraw := hraw0 _ (List.getElem_mem hil)
      have hwt := wts_take (L := P.map Prod.fst) (i := i) (by rw [List.length_map]; exact hil)
      rw [List.getElem_map, ← hn] at hwt
      have hnx : OkR P[i].1 → ∀ j (hj : j < P.length), j < i + 1 → OkR P[j].1 := fun h j hj hjk => by
        rcases Nat.lt_succ_iff_lt_or_eq.1 hjk with h' | rfl
        · exact hok j hj h'
        · exact h
      generalize P[i] = p at hc hmk hraw hwt hnx
      obtain ⟨⟨tx, em, v, ms⟩, mv⟩ := p
      obtain ⟨ma, mc, hme⟩ := hmk.form
      dsimp only at hme hmk hwt hnx
      subst hme
      have r1 := hraw.tx
      have r2 := hraw.vs
      have r3 := hraw.ml
      dsimp only at r1 r2 r3
      have hc0 : A.cell? ⟨g, off + i * 7 + 0, none⟩ = some (.string tx) := hc 0 _ rfl
      have hc5 : A.cell? ⟨g, off + i * 7 + 5, none⟩ = some (.string v.s) := hc 5 _ rfl
      have hc6 : A.cell? ⟨g, off + i * 7 + 6, none⟩ = some (.slice ma ms.length mc) := hc 6 _ rfl
      (refine Ga ?_)
      refine W_draws (fun Z => Below A.heap.size A Z) rfl (by kernel_rfl) (Below.drew (Below.refl _ _)) ?_
      (refine Qb ?_)
      (refine Qb ?_)
      (refine Qb ?_)
      (refine Qb ?_)
      apply Qst_pu
      · apply P_idxm (j := i) (sz := 7)
        focus rfl
        focus rfl
        focus rfl
        focus rfl
        focus rfl
        focus omega
      focus rfl
      (refine Qb ?_)
      (refine Qb ?_)
      apply Qst_loadc
      focus rfl
      focus rfl
      focus rfl
      focus exact fun A9 hA9 => cell_below hA9 hc0
      focus rfl
      (refine Qb ?_)
      (refine Qb ?_)
      (refine Qb ?_)
      (refine Qb ?_)
      (refine Qb ?_)
      apply Qst_pu
      · apply P_idxm (j := i) (sz := 7)
        focus rfl
        focus rfl
        focus rfl
        focus rfl
        focus rfl
        focus omega
      focus rfl
      (refine Qb ?_)
      (refine Qb ?_)
      (refine Qb ?_)
      apply Qst_loadc
      focus rfl
      focus rfl
      focus rfl
      focus exact fun A9 hA9 => cell_below hA9 hc5
      focus rfl
      (refine Qb ?_)
      (refine Qb ?_)
      (refine Qb ?_)
      (refine Qb ?_)
      (refine Qb ?_)
      apply Qst_pu
      · apply P_idxm (j := i) (sz := 7)
        focus rfl
        focus rfl
        focus rfl
        focus rfl
        focus rfl
        focus omega
      focus rfl
      (refine Qb ?_)
      (refine Qb ?_)
      apply Qst_loadc
      focus rfl
      focus rfl
      focus rfl
      focus exact fun A9 hA9 => cell_below hA9 hc6
      focus rfl
      (refine Qb ?_)
      (refine Qb ?_)
      (refine Qb ?_)
      (refine Qb ?_)
      (refine Qb ?_)
      intro A1 hS
      (refine Ga ?_)
      obtain ⟨n1, hn1⟩ : ∃ n1 : Nat, n + 1 + tx.size + v.s.size + 3 * ms.length = n1 := ⟨_, rfl⟩
      have hn1b : n1 ≤ 20000000 := by omega
      have bA1 := bA.trans (hS.mono bA.size)
      have hcA : ∀ j u, (pcs (⟨tx, em, v, ms⟩, .slice ma ms.length mc))[j]? = some u → A1.cell? ⟨g, off + i * 7 + j, none⟩ = some u := fun j u hu => cell_below hS (hc j u hu)
      have hcA0 : A1.cell? ⟨g, off + i * 7 + 0, none⟩ = some (.string tx) := hcA 0 _ rfl
      apply Lst_pu
      · apply P_idxm (j := i) (sz := 7)
        focus rfl
        focus rfl
        focus rfl
        focus rfl
        focus rfl
        focus omega
      focus rfl
      (refine Ga ?_)
      (apply Lst_call; (focus rfl); (focus rfl))
      refine (Utf.r_Check tx A1 r1).mono ?_
      rintro u W1 ⟨rfl, hW⟩
      have hAW1 := hS.trans (hW.mono hS.size)
      by_cases hval : Lib.validD (tl tx) = true
      · rw [hval]
        cases em with
        | true =>
          have hcW : ∀ j u, (pcs (⟨tx, true, v, ms⟩, .slice ma ms.length mc))[j]? = some u → W1.cell? ⟨g, off + i * 7 + j, none⟩ = some u := fun j u hu => cell_below hAW1 (hc j u hu)
          have hcW1 : W1.cell? ⟨g, off + i * 7 + 1, none⟩ = some (.bool true) := hcW 1 _ rfl
          have hcW0 : W1.cell? ⟨g, off + i * 7 + 0, none⟩ = some (.string tx) := hcW 0 _ rfl
          (refine Ga ?_)
          apply Lst_pu
          · apply P_idxm (j := i) (sz := 7)
            focus rfl
            focus rfl
            focus rfl
            focus rfl
            focus rfl
            focus omega
          focus rfl
          (refine Ga ?_)
          apply Lst_pu
          · apply P_idxm (j := i) (sz := 7)
            focus rfl
            focus rfl
            focus rfl
            focus rfl
            focus rfl
            focus omega
          focus rfl
          (refine Ga ?_)
          by_cases htx : tx = ⟨#[]⟩
          · (refine Ga ?_)
            apply Lst_pu
            · apply P_idxm (j := i) (sz := 7)
              focus rfl
              focus rfl
              focus rfl
              focus rfl
              focus rfl
              focus omega
            focus rfl
            (refine Ga ?_)
            apply Lst_loadS' (cs := vcs v)
            focus rfl
            focus rfl
            focus rfl
            focus rfl
            focus rfl
            focus exact fun j u hu => by rw [Nat.add_assoc]; exact hcW (2 + j) u (by have hj : j < 4 := (List.getElem?_eq_some_iff.1 hu).1; rw [← hu]; rcases j with _ | _ | _ | _ | j <;> first | rfl | omega)
            focus rfl
            unfold vcs
            (refine Ga ?_)
            (apply Lst_call; (focus rfl); (focus rfl))
            refine (Val.r_Check v W1).mono ?_
            rintro u V ⟨rfl, hV⟩
            have hAW := hAW1.trans (hV.mono hAW1.size)
            have bV := bA.trans (hAW.mono bA.size)
            have hcV : ∀ j u, (pcs (⟨tx, true, v, ms⟩, .slice ma ms.length mc))[j]? = some u → V.cell? ⟨g, off + i * 7 + j, none⟩ = some u := fun j u hu => cell_below hAW (hc j u hu)
            have hcV1 : V.cell? ⟨g, off + i * 7 + 1, none⟩ = some (.bool true) := hcV 1 _ rfl
            have hcV2 : V.cell? ⟨g, off + i * 7 + 2, none⟩ = some (.int .i64 v.k) := hcV 2 _ rfl
            by_cases hvo : okV v = true
            · rw [if_pos hvo]
              (refine Ga ?_)
              apply Lst_pu
              · apply P_idxm (j := i) (sz := 7)
                focus rfl
                focus rfl
                focus rfl
                focus rfl
                focus rfl
                focus omega
              focus rfl
              (refine Ga ?_)
              have hokr : (∀ q ∈ ms, okV q.2 = true ∧ q.2.Fit) → OkR ⟨tx, true, v, ms⟩ := fun hm => ⟨hval, fun _ => htx, hvo, hraw.fit, fun h => (by cases h), hm⟩
              refine W_loop (α := Nat × Nat) (fun x => [(0, .slice (some ⟨g, off, none⟩) P.length c), (3, .int .i64 (x.2 : Int)), (4, .int .i64 (i : Int)), (5, .int .i64 (x.1 : Int))])
                (fun x Z => x.1 ≤ ms.length ∧ x.2 = n1 + wtMs (ms.take x.1) ∧ x.2 ≤ n1 + x.1 * 4000000 ∧ (∀ j (h : j < ms.length), j < x.1 → okV ms[j].2 = true) ∧ Below V.heap.size V Z) (fun x _ => ms.length - x.1) (0, n1) ⟨Nat.zero_le _, by dsimp only; rw [List.take_zero]; show n1 = n1 + 0; rfl, by dsimp only; omega, fun j _ h => absurd h (Nat.not_lt_zero _), Below.refl _ _⟩ ⟨rfl, ?_, rfl, rfl, trivial⟩ ?_
              · refine congrArg (Value.int .i64) ?_
                omega
              rintro J ⟨k, m⟩ Z ⟨hk, hmw, hmb, hok2, hZ⟩
              dsimp only at hk hmw hmb hok2 hZ ⊢
              have hcZ : ∀ j u, (pcs (⟨tx, true, v, ms⟩, .slice ma ms.length mc))[j]? = some u → Z.cell? ⟨g, off + i * 7 + j, none⟩ = some u := fun j u hu => cell_below (hAW.trans (hZ.mono hAW.size)) (hc j u hu)
              have bZ := bA.trans ((hAW.trans (hZ.mono hAW.size)).mono bA.size)
              have hcZ6 : Z.cell? ⟨g, off + i * 7 + 6, none⟩ = some (.slice ma ms.length mc) := hcZ 6 _ rfl
              by_cases hkl : k < ms.length
              · have hmk2 := (hmk.below (hAW.trans (hZ.mono hAW.size)))
                obtain ⟨g2, off2, rfl, _, hmZ⟩ := hmk2.at hkl
                have hq := hraw.ms _ (List.getElem_mem hkl)
                have hw1 := wtMs_take hkl
                have hx2 : ∀ (h : okV ms[k].2 = true) j (hj : j < ms.length), j < k + 1 → okV ms[j].2 = true := fun h j hj hjk => by
                  rcases Nat.lt_succ_iff_lt_or_eq.1 hjk with h' | rfl
                  · exact hok2 j hj h'
                  · exact h
                have hkb : k * 4000000 ≤ 8000000000000 := by omega
                generalize ms[k] = q at hmZ hq hw1 hx2
                obtain ⟨hq1, hq2, hq3⟩ := hq
                have hmZ0 : Z.cell? ⟨g2, off2 + k * 5 + 0, none⟩ = some (.string q.1) := hmZ 0 _ rfl
                have hmZ4 : Z.cell? ⟨g2, off2 + k * 5 + 4, none⟩ = some (.string q.2.s) := hmZ 4 _ rfl
                unfold wtM at hw1
                (refine Ga ?_)
                apply Lst_pu
                · apply P_idxm (j := i) (sz := 7)
                  focus rfl
                  focus rfl
                  focus rfl
                  focus rfl
                  focus rfl
                  focus omega
                focus rfl
                (refine Ga ?_)
                refine W_draws (fun Y => Below Z.heap.size Z Y) rfl (by kernel_rfl) (Below.drew (Below.refl _ _)) ?_
                (refine Qb ?_)
                (refine Qb ?_)
                (refine Qb ?_)
                apply Qst_pu
                · apply P_idxm (j := i) (sz := 7)
                  focus rfl
                  focus rfl
                  focus rfl
                  focus rfl
                  focus rfl
                  focus omega
                focus rfl
                (refine Qb ?_)
                (refine Qb ?_)
                apply Qst_loadc
                focus rfl
                focus rfl
                focus rfl
                focus exact fun A9 hA9 => cell_below hA9 hcZ6
                focus rfl
                (refine Qb ?_)
                (refine Qb ?_)
                apply Qst_pu
                · apply P_idxm (j := k) (sz := 5)
                  focus rfl
                  focus rfl
                  focus rfl
                  focus rfl
                  focus rfl
                  focus omega
                focus rfl
                (refine Qb ?_)
                (refine Qb ?_)
                apply Qst_loadc
                focus rfl
                focus rfl
                focus rfl
                focus exact fun A9 hA9 => cell_below hA9 hmZ0
                focus rfl
                (refine Qb ?_)
                (refine Qb ?_)
                (refine Qb ?_)
                (refine Qb ?_)
                (refine Qb ?_)
                apply Qst_pu
                · apply P_idxm (j := i) (sz := 7)
                  focus rfl
                  focus rfl
                  focus rfl
                  focus rfl
                  focus rfl
                  focus omega
                focus rfl
                (refine Qb ?_)
                (refine Qb ?_)
                apply Qst_loadc
                focus rfl
                focus rfl
                focus rfl
                focus exact fun A9 hA9 => cell_below hA9 hcZ6
                focus rfl
                (refine Qb ?_)
                (refine Qb ?_)
                apply Qst_pu
                · apply P_idxm (j := k) (sz := 5)
                  focus rfl
                  focus rfl
                  focus rfl
                  focus rfl
                  focus rfl
                  focus omega
                focus rfl
                (refine Qb ?_)
                (refine Qb ?_)
                (refine Qb ?_)
                apply Qst_loadc
                focus rfl
                focus rfl
                focus rfl
                focus exact fun A9 hA9 => cell_below hA9 hmZ4
                focus rfl
                (refine Qb ?_)
                (refine Qb ?_)
                (refine Qb ?_)
                (refine Qb ?_)
                intro Z1 hS
                (refine Ga ?_)
                have hcZ1 : ∀ j u, (pcs (⟨tx, true, v, ms⟩, .slice (some ⟨g2, off2, none⟩) ms.length mc))[j]? = some u → Z1.cell? ⟨g, off + i * 7 + j, none⟩ = some u := fun j u hu => cell_below hS (hcZ j u hu)
                have hmZ1 : ∀ j u, (mcs q)[j]? = some u → Z1.cell? ⟨g2, off2 + k * 5 + j, none⟩ = some u := fun j u hu => cell_below hS (hmZ j u hu)
                have hcZ6' : Z1.cell? ⟨g, off + i * 7 + 6, none⟩ = some (.slice (some ⟨g2, off2, none⟩) ms.length mc) := hcZ1 6 _ rfl
                apply Lst_pu
                · apply P_idxm (j := i) (sz := 7)
                  focus rfl
                  focus rfl
                  focus rfl
                  focus rfl
                  focus rfl
                  focus omega
                focus rfl
                (refine Ga ?_)
                apply Lst_pu
                · apply P_idxm (j := k) (sz := 5)
                  focus rfl
                  focus rfl
                  focus rfl
                  focus rfl
                  focus rfl
                  focus omega
                focus rfl
                (refine Ga ?_)
                apply Lst_loadS' (cs := vcs q.2)
                focus rfl
                focus rfl
                focus rfl
                focus rfl
                focus rfl
                focus exact fun j u hu => by rw [Nat.add_assoc]; exact hmZ1 (1 + j) u (by rw [Nat.add_comm]; exact hu)
                focus rfl
                unfold vcs
                (refine Ga ?_)
                (apply Lst_call; (focus rfl); (focus rfl))
                refine (Val.r_Check q.2 Z1).mono ?_
                rintro v Y ⟨rfl, hY⟩
                have hZY := hS.trans (hY.mono hS.size)
                have bY := bZ.trans (hZY.mono bZ.size)
                by_cases hqo : okV q.2 = true
                · rw [if_pos hqo]
                  (refine Ga ?_)
                  refine rndQ_n (α := Nat × Nat) (k + 1, m + q.1.size + q.2.s.size) ⟨hkl, by dsimp only; omega, by dsimp only; omega, hx2 hqo, hZ.trans (hZY.mono hZ.size)⟩ ⟨rfl, ?_, rfl, ?_, trivial⟩ (by dsimp only; omega)
                  · exact congrArg (Value.int .i64) (by dsimp only; omega)
                  · exact congrArg (Value.int .i64) (by dsimp only; omega)
                · rw [if_neg hqo]
                  (refine Ga ?_)
                  (apply retQ1; (focus rfl))
                  exact ⟨⟨false, rfl, fun h => (by cases h)⟩, bY⟩
              · obtain rfl : k = ms.length := by omega
                rw [List.take_length] at hmw
                have hmo : ∀ q ∈ ms, okV q.2 = true ∧ q.2.Fit := fun q hq => by
                  obtain ⟨j, hj, rfl⟩ := List.getElem_of_mem hq
                  exact ⟨hok2 j hj hj, (hraw.ms _ hq).2.1⟩
                (refine Ga ?_)
                apply Lst_pu
                · apply P_idxm (j := i) (sz := 7)
                  focus rfl
                  focus rfl
                  focus rfl
                  focus rfl
                  focus rfl
                  focus omega
                focus rfl
                (refine Ga ?_)
                refine rndQ_n (α := Nat × Nat) (i + 1, m) ⟨hil, by dsimp only; rw [hwt]; unfold wtR; dsimp only; omega, hnx (hokr hmo), bZ⟩ ⟨rfl, rfl, ?_, trivial⟩ (by dsimp only; omega)
                exact congrArg (Value.int .i64) (by dsimp only; omega)
            · rw [if_neg hvo]
              (refine Ga ?_)
              (apply retQ1; (focus rfl))
              exact ⟨⟨false, rfl, fun h => (by cases h)⟩, bV⟩
          · (refine Ga ?_)
            (apply retQ1; (focus rfl))
            exact ⟨⟨false, rfl, fun h => (by cases h)⟩, (bA.trans (hAW1.mono bA.size))⟩
        | false =>
          have hcW : ∀ j u, (pcs (⟨tx, false, v, ms⟩, .slice ma ms.length mc))[j]? = some u → W1.cell? ⟨g, off + i * 7 + j, none⟩ = some u := fun j u hu => cell_below hAW1 (hc j u hu)
          have hcW1 : W1.cell? ⟨g, off + i * 7 + 1, none⟩ = some (.bool false) := hcW 1 _ rfl
          have hcW0 : W1.cell? ⟨g, off + i * 7 + 0, none⟩ = some (.string tx) := hcW 0 _ rfl
          (refine Ga ?_)
          apply Lst_pu
          · apply P_idxm (j := i) (sz := 7)
            focus rfl
            focus rfl
            focus rfl
            focus rfl
            focus rfl
            focus omega
          focus rfl
          (refine Ga ?_)
          apply Lst_pu
          · apply P_idxm (j := i) (sz := 7)
            focus rfl
            focus rfl
            focus rfl
            focus rfl
            focus rfl
            focus omega
          focus rfl
          (refine Ga ?_)
          apply Lst_loadS' (cs := vcs v)
          focus rfl
          focus rfl
          focus rfl
          focus rfl
          focus rfl
          focus exact fun j u hu => by rw [Nat.add_assoc]; exact hcW (2 + j) u (by have hj : j < 4 := (List.getElem?_eq_some_iff.1 hu).1; rw [← hu]; rcases j with _ | _ | _ | _ | j <;> first | rfl | omega)
          focus rfl
          unfold vcs
          (refine Ga ?_)
          (apply Lst_call; (focus rfl); (focus rfl))
          refine (Val.r_Check v W1).mono ?_
          rintro u V ⟨rfl, hV⟩
          have hAW := hAW1.trans (hV.mono hAW1.size)
          have bV := bA.trans (hAW.mono bA.size)
          have hcV : ∀ j u, (pcs (⟨tx, false, v, ms⟩, .slice ma ms.length mc))[j]? = some u → V.cell? ⟨g, off + i * 7 + j, none⟩ = some u := fun j u hu => cell_below hAW (hc j u hu)
          have hcV1 : V.cell? ⟨g, off + i * 7 + 1, none⟩ = some (.bool false) := hcV 1 _ rfl
          have hcV2 : V.cell? ⟨g, off + i * 7 + 2, none⟩ = some (.int .i64 v.k) := hcV 2 _ rfl
          by_cases hvo : okV v = true
          · rw [if_pos hvo]
            (refine Ga ?_)
            apply Lst_pu
            · apply P_idxm (j := i) (sz := 7)
              focus rfl
              focus rfl
              focus rfl
              focus rfl
              focus rfl
              focus omega
            focus rfl
            (refine Ga ?_)
            apply Lst_pu
            · apply P_idxm (j := i) (sz := 7)
              focus rfl
              focus rfl
              focus rfl
              focus rfl
              focus rfl
              focus omega
            focus rfl
            (refine Ga ?_)
            by_cases hk0 : v.k = 0
            · have hvz := okV_null hvo hk0
              have hokr : (∀ q ∈ ms, okV q.2 = true ∧ q.2.Fit) → OkR ⟨tx, false, v, ms⟩ := fun hm => ⟨hval, fun h => (by cases h), hvo, hraw.fit, fun _ => hvz, hm⟩
              (refine Ga ?_)
              refine W_loop (α := Nat × Nat) (fun x => [(0, .slice (some ⟨g, off, none⟩) P.length c), (3, .int .i64 (x.2 : Int)), (4, .int .i64 (i : Int)), (5, .int .i64 (x.1 : Int))])
                (fun x Z => x.1 ≤ ms.length ∧ x.2 = n1 + wtMs (ms.take x.1) ∧ x.2 ≤ n1 + x.1 * 4000000 ∧ (∀ j (h : j < ms.length), j < x.1 → okV ms[j].2 = true) ∧ Below V.heap.size V Z) (fun x _ => ms.length - x.1) (0, n1) ⟨Nat.zero_le _, by dsimp only; rw [List.take_zero]; show n1 = n1 + 0; rfl, by dsimp only; omega, fun j _ h => absurd h (Nat.not_lt_zero _), Below.refl _ _⟩ ⟨rfl, ?_, rfl, rfl, trivial⟩ ?_
              · refine congrArg (Value.int .i64) ?_
                omega
              rintro J ⟨k, m⟩ Z ⟨hk, hmw, hmb, hok2, hZ⟩
              dsimp only at hk hmw hmb hok2 hZ ⊢
              have hcZ : ∀ j u, (pcs (⟨tx, false, v, ms⟩, .slice ma ms.length mc))[j]? = some u → Z.cell? ⟨g, off + i * 7 + j, none⟩ = some u := fun j u hu => cell_below (hAW.trans (hZ.mono hAW.size)) (hc j u hu)
              have bZ := bA.trans ((hAW.trans (hZ.mono hAW.size)).mono bA.size)
              have hcZ6 : Z.cell? ⟨g, off + i * 7 + 6, none⟩ = some (.slice ma ms.length mc) := hcZ 6 _ rfl
              by_cases hkl : k < ms.length
              · have hmk2 := (hmk.below (hAW.trans (hZ.mono hAW.size)))
                obtain ⟨g2, off2, rfl, _, hmZ⟩ := hmk2.at hkl
                have hq := hraw.ms _ (List.getElem_mem hkl)
                have hw1 := wtMs_take hkl
                have hx2 : ∀ (h : okV ms[k].2 = true) j (hj : j < ms.length), j < k + 1 → okV ms[j].2 = true := fun h j hj hjk => by
                  rcases Nat.lt_succ_iff_lt_or_eq.1 hjk with h' | rfl
                  · exact hok2 j hj h'
                  · exact h
                have hkb : k * 4000000 ≤ 8000000000000 := by omega
                generalize ms[k] = q at hmZ hq hw1 hx2
                obtain ⟨hq1, hq2, hq3⟩ := hq
                have hmZ0 : Z.cell? ⟨g2, off2 + k * 5 + 0, none⟩ = some (.string q.1) := hmZ 0 _ rfl
                have hmZ4 : Z.cell? ⟨g2, off2 + k * 5 + 4, none⟩ = some (.string q.2.s) := hmZ 4 _ rfl
                unfold wtM at hw1
                (refine Ga ?_)
                apply Lst_pu
                · apply P_idxm (j := i) (sz := 7)
                  focus rfl
                  focus rfl
                  focus rfl
                  focus rfl
                  focus rfl
                  focus omega
                focus rfl
                (refine Ga ?_)
                refine W_draws (fun Y => Below Z.heap.size Z Y) rfl (by kernel_rfl) (Below.drew (Below.refl _ _)) ?_
                (refine Qb ?_)
                (refine Qb ?_)
                (refine Qb ?_)
                apply Qst_pu
                · apply P_idxm (j := i) (sz := 7)
                  focus rfl
                  focus rfl
                  focus rfl
                  focus rfl
                  focus rfl
                  focus omega
                focus rfl
                (refine Qb ?_)
                (refine Qb ?_)
                apply Qst_loadc
                focus rfl
                focus rfl
                focus rfl
                focus exact fun A9 hA9 => cell_below hA9 hcZ6
                focus rfl
                (refine Qb ?_)
                (refine Qb ?_)
                apply Qst_pu
                · apply P_idxm (j := k) (sz := 5)
                  focus rfl
                  focus rfl
                  focus rfl
                  focus rfl
                  focus rfl
                  focus omega
                focus rfl
                (refine Qb ?_)
                (refine Qb ?_)
                apply Qst_loadc
                focus rfl
                focus rfl
                focus rfl
                focus exact fun A9 hA9 => cell_below hA9 hmZ0
                focus rfl
                (refine Qb ?_)
                (refine Qb ?_)
                (refine Qb ?_)
                (refine Qb ?_)
                (refine Qb ?_)
                apply Qst_pu
                · apply P_idxm (j := i) (sz := 7)
                  focus rfl
                  focus rfl
                  focus rfl
                  focus rfl
                  focus rfl
                  focus omega
                focus rfl
                (refine Qb ?_)
                (refine Qb ?_)
                apply Qst_loadc
                focus rfl
                focus rfl
                focus rfl
                focus exact fun A9 hA9 => cell_below hA9 hcZ6
                focus rfl
                (refine Qb ?_)
                (refine Qb ?_)
                apply Qst_pu
                · apply P_idxm (j := k) (sz := 5)
                  focus rfl
                  focus rfl
                  focus rfl
                  focus rfl
                  focus rfl
                  focus omega
                focus rfl
                (refine Qb ?_)
                (refine Qb ?_)
                (refine Qb ?_)
                apply Qst_loadc
                focus rfl
                focus rfl
                focus rfl
                focus exact fun A9 hA9 => cell_below hA9 hmZ4
                focus rfl
                (refine Qb ?_)
                (refine Qb ?_)
                (refine Qb ?_)
                (refine Qb ?_)
                intro Z1 hS
                (refine Ga ?_)
                have hcZ1 : ∀ j u, (pcs (⟨tx, false, v, ms⟩, .slice (some ⟨g2, off2, none⟩) ms.length mc))[j]? = some u → Z1.cell? ⟨g, off + i * 7 + j, none⟩ = some u := fun j u hu => cell_below hS (hcZ j u hu)
                have hmZ1 : ∀ j u, (mcs q)[j]? = some u → Z1.cell? ⟨g2, off2 + k * 5 + j, none⟩ = some u := fun j u hu => cell_below hS (hmZ j u hu)
                have hcZ6' : Z1.cell? ⟨g, off + i * 7 + 6, none⟩ = some (.slice (some ⟨g2, off2, none⟩) ms.length mc) := hcZ1 6 _ rfl
                apply Lst_pu
                · apply P_idxm (j := i) (sz := 7)
                  focus rfl
                  focus rfl
                  focus rfl
                  focus rfl
                  focus rfl
                  focus omega
                focus rfl
                (refine Ga ?_)
                apply Lst_pu
                · apply P_idxm (j := k) (sz := 5)
                  focus rfl
                  focus rfl
                  focus rfl
                  focus rfl
                  focus rfl
                  focus omega
                focus rfl
                (refine Ga ?_)
                apply Lst_loadS' (cs := vcs q.2)
                focus rfl
                focus rfl
                focus rfl
                focus rfl
                focus rfl
                focus exact fun j u hu => by rw [Nat.add_assoc]; exact hmZ1 (1 + j) u (by rw [Nat.add_comm]; exact hu)
                focus rfl
                unfold vcs
                (refine Ga ?_)
                (apply Lst_call; (focus rfl); (focus rfl))
                refine (Val.r_Check q.2 Z1).mono ?_
                rintro v Y ⟨rfl, hY⟩
                have hZY := hS.trans (hY.mono hS.size)
                have bY := bZ.trans (hZY.mono bZ.size)
                by_cases hqo : okV q.2 = true
                · rw [if_pos hqo]
                  (refine Ga ?_)
                  refine rndQ_n (α := Nat × Nat) (k + 1, m + q.1.size + q.2.s.size) ⟨hkl, by dsimp only; omega, by dsimp only; omega, hx2 hqo, hZ.trans (hZY.mono hZ.size)⟩ ⟨rfl, ?_, rfl, ?_, trivial⟩ (by dsimp only; omega)
                  · exact congrArg (Value.int .i64) (by dsimp only; omega)
                  · exact congrArg (Value.int .i64) (by dsimp only; omega)
                · rw [if_neg hqo]
                  (refine Ga ?_)
                  (apply retQ1; (focus rfl))
                  exact ⟨⟨false, rfl, fun h => (by cases h)⟩, bY⟩
              · obtain rfl : k = ms.length := by omega
                rw [List.take_length] at hmw
                have hmo : ∀ q ∈ ms, okV q.2 = true ∧ q.2.Fit := fun q hq => by
                  obtain ⟨j, hj, rfl⟩ := List.getElem_of_mem hq
                  exact ⟨hok2 j hj hj, (hraw.ms _ hq).2.1⟩
                (refine Ga ?_)
                apply Lst_pu
                · apply P_idxm (j := i) (sz := 7)
                  focus rfl
                  focus rfl
                  focus rfl
                  focus rfl
                  focus rfl
                  focus omega
                focus rfl
                (refine Ga ?_)
                refine rndQ_n (α := Nat × Nat) (i + 1, m) ⟨hil, by dsimp only; rw [hwt]; unfold wtR; dsimp only; omega, hnx (hokr hmo), bZ⟩ ⟨rfl, rfl, ?_, trivial⟩ (by dsimp only; omega)
                exact congrArg (Value.int .i64) (by dsimp only; omega)
            · (refine Ga ?_)
              (apply retQ1; (focus rfl))
              exact ⟨⟨false, rfl, fun h => (by cases h)⟩, bV⟩
          · rw [if_neg hvo]
            (refine Ga ?_)
            (apply retQ1; (focus rfl))
            exact ⟨⟨false, rfl, fun h => (by cases h)⟩, bV⟩
      · rw [Bool.eq_false_iff.2 hval]
        (refine Ga ?_)
        (apply retQ1; (focus rfl))
        exact ⟨⟨false, rfl, fun h => (by cases h)⟩, (bA.trans (hAW1.mono bA.size))⟩
    · by_cases hl1 : P.length ≤ 100
      · (refine Ga ?_)
        (apply retQ1; (focus rfl))
        exact ⟨⟨false, rfl, fun h => (by cases h)⟩, bA⟩
      · (refine Ga ?_)
        (apply retQ1; (focus rfl))
        exact ⟨⟨false, rfl, fun h => (by cases h)⟩, bA⟩
  · obtain rfl : i = P.length := by omega
    rw [List.take_of_length_le (by rw [List.length_map]; exact Nat.le_refl _)] at hn
    by_cases hl1 : P.length ≤ 100
    · by_cases hnl : n ≤ 2000
      · (refine Ga ?_)
        (apply retQ1; (focus rfl))
        refine ⟨⟨true, rfl, fun _ => ⟨by rw [List.length_map]; exact hl1, fun r hr => ?_, by omega⟩⟩, bA⟩
        obtain ⟨p, hp, rfl⟩ := List.mem_map.1 hr
        obtain ⟨j, hj, rfl⟩ := List.getElem_of_mem hp
        exact hok j hj hj
      · (refine Ga ?_)
        (apply retQ1; (focus rfl))
        exact ⟨⟨false, rfl, fun h => (by cases h)⟩, bA⟩
    · (refine Ga ?_)
      (apply retQ1; (focus rfl))
      exact ⟨⟨false, rfl, fun h => (by cases h)⟩, bA⟩
end
end Vw
end Go.Proofs.YtglfoofclicfpaaDoor
