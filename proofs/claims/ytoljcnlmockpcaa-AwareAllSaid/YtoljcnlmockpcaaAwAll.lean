/- AwareAll. -/
import Derived.Test.YtoljcnlmockpcaaAwGive
namespace Go.Proofs.Ytoljcnlmockpcaa
set_option maxRecDepth 100000
namespace Aw
open Go Go.RowKit Sx Wire
open So (W_cutS cutQ_p rndQ_p)
/-- Two that tell one clock twice. -/
def Twice (x y : Pr) : Prop := x.c = y.c ∧ x.k = y.k ∧ (x.g ≠ y.g ∨ x.g = false ∧ x.s ≠ y.s)
theorem nm_once {x y : Pr} (h : ¬ Twice x y) (hc : x.c = y.c) (hk : x.k = y.k) : nm x = nm y := by
  obtain ⟨c, k, s, g⟩ := x
  obtain ⟨c', k', s', g'⟩ := y
  have hc : c = c' := hc
  have hk : k = k' := hk
  subst hc hk
  have h' : ¬ (c = c ∧ k = k ∧ (g ≠ g' ∨ g = false ∧ s ≠ s')) := h
  by_cases hg : g = g'
  · subst hg
    cases g with
    | true => rfl
    | false =>
      have hs : s = s' := Classical.byContradiction fun hn => h' ⟨rfl, rfl, .inr ⟨rfl, hn⟩⟩
      rw [hs]
  · exact absurd ⟨rfl, rfl, .inl hg⟩ h'
theorem Two.belA {w0 w w' : World} {p mb p2 mb2 : Nat} {a b : Awr} (h : Two w0 w p mb p2 mb2 a b) (hc : Chg [p, mb] w w') : Below w0.heap.size w0 w' :=
  h.bel.trans (hc.below (by
    intro x hx
    simp only [List.mem_cons, List.not_mem_nil, or_false] at hx
    rcases hx with rfl | rfl
    · exact h.lo.1
    · exact h.lo.2.1) h.bel.size)
theorem Two.belB {w0 w w' : World} {p mb p2 mb2 : Nat} {a b : Awr} (h : Two w0 w p mb p2 mb2 a b) (hc : Chg [p2, mb2] w w') : Below w0.heap.size w0 w' :=
  h.bel.trans (hc.below (by
    intro x hx
    simp only [List.mem_cons, List.not_mem_nil, or_false] at hx
    rcases hx with rfl | rfl
    · exact h.lo.2.2.1
    · exact h.lo.2.2.2) h.bel.size)
attribute [local irreducible] W Lst Qst Pu seqQ blkQ rndQ cutQ retQ Does Enters IntKind.wrap bits sb World.alloc World.putObj Blk
set_option maxHeartbeats 2000000 in
theorem law_AwareAll (vl vm : Value) (l m : List Pr) (hl : l.length ≤ 281474976710656) (hm : m.length ≤ 281474976710656) (w : World) (hpl : PrC w vl l) (hpm : PrC w vm m) (hkl : ∀ q ∈ l, q.k < 18446744073709551616) (hkm : ∀ q ∈ m, q.k < 18446744073709551616) (hcl : ∀ q ∈ l, q.c < 18446744073709551616) (hcm : ∀ q ∈ m, q.c < 18446744073709551616) : Does Try.prog 5 #[vl, vm] w fun v w' => v = .bool true ∧ Below w.heap.size w w' := by
  obtain ⟨hpl, x1, y1, rfl, hxl⟩ := hpl
  obtain ⟨hpm, x2, y2, rfl, hxm⟩ := hpm
  refine Does_of (args := [.slice x1 l.length y1, .slice x2 m.length y2]) Try.func5 (by kernel_rfl) rfl rfl rfl rfl rfl ?_
  (refine Ga ?_)
  (apply Lst_call; (focus rfl); (focus rfl))
  refine (c_known20 w).mono ?_
  rintro v w1 ⟨rfl, b1⟩
  have s1 := b1.size
  by_cases h30 : 30 < l.length
  · (refine Ga ?_)
    (apply retQ1; (focus rfl))
    exact ⟨rfl, b1⟩
  by_cases h31 : 30 < m.length
  · (refine Ga ?_)
    (apply retQ1; (focus rfl))
    exact ⟨rfl, b1⟩
  have hpl1 := hpl.below b1 (Nat.le_refl _)
  have hpm1 := hpm.below b1 (Nat.le_refl _)
  (refine Ga ?_)
  apply Lst_appendR (hown := World.ownsRow_nil w1 w1.heap.size 37 4) (hy := hpl1) (hls := pcs_len l) (hone := pcs_one l) (bytes := 40)
  focus rfl
  focus rfl
  focus rfl
  focus rfl
  focus rfl
  focus rfl
  focus rfl
  focus rfl
  focus rfl
  focus (rw [List.length_map]; omega)
  focus (rw [List.length_map]; omega)
  focus omega
  focus rfl
  intro v' w2 ho hgr
  rw [List.nil_append, Nat.zero_add, List.length_map] at ho
  have hb1 := Sx.Below.own (Below.refl _ w1) (World.ownsRow_nil w1 w1.heap.size 37 4) hgr (Nat.le_refl _) (Nat.le_refl _)
  have s2 := hb1.size
  obtain ⟨o1, o2, o3, rfl⟩ := own_slice ho
  have hpm2 := hpm1.below hb1 (Nat.le_refl _)
  (refine Ga ?_)
  apply Lst_appendR (hown := ho) (hy := hpm2) (hls := pcs_len m) (hone := pcs_one m) (bytes := 40)
  focus rfl
  focus rfl
  focus rfl
  focus rfl
  focus rfl
  focus rfl
  focus rfl
  focus rfl
  focus rfl
  focus (rw [List.length_map]; omega)
  focus (rw [List.length_map]; omega)
  focus omega
  focus rfl
  intro v' w3 ho3 hgr3
  rw [List.length_map, ← List.flatten_append, ← List.map_append] at ho3
  have hb3 := Sx.Below.own hb1 ho hgr3 (Nat.le_refl _) s2
  have b3 := b1.trans (hb3.mono s1)
  have s3 := hb3.size
  obtain ⟨hP3, o4, o5, rfl, hoc⟩ := Prs.own ho3
  have hpl3 := hpl.below b3 (Nat.le_refl _)
  have hpm3 := hpm.below b3 (Nat.le_refl _)
  have hcb : ∀ q ∈ l ++ m, q.c < 18446744073709551616 ∧ q.k < 18446744073709551616 := by
    intro q hq
    rcases List.mem_append.1 hq with hq | hq
    · exact ⟨hcl q hq, hkl q hq⟩
    · exact ⟨hcm q hq, hkm q hq⟩
  have hbl : (l ++ m).length ≤ 60 := by rw [List.length_append]; omega
  clear ho ho3 hgr hgr3 hpl1 hpm1 hpm2 hb1 hb3
  generalize hB : l ++ m = B at *
  (refine Ga ?_)
  refine So.W_cutB (α := Unit) (fun _ => [(0, .slice x1 l.length y1), (1, .slice x2 m.length y2)]) (fun _ A => Below w3.heap.size w3 A ∧ Once B) ?_ ?_
  · refine W_loop (α := Nat) (fun i => [(0, .slice x1 l.length y1), (1, .slice x2 m.length y2), (5, .slice o4 B.length o5), (6, .int .i64 (i : Int))])
      (fun i A => i ≤ B.length ∧ Below w3.heap.size w3 A ∧ ∀ (a b : Nat) (ha : a < B.length) (hb : b < B.length), a < i → b < a → ¬ Twice B[a] B[b]) (fun i _ => B.length - i) 0
      ⟨Nat.zero_le _, Below.refl _ _, fun a b _ _ h => absurd h (Nat.not_lt_zero _)⟩ ⟨rfl, rfl, rfl, rfl, trivial⟩ ?_
    rintro J i A ⟨hi, hbA, hno⟩
    by_cases hil : i < B.length
    · (refine Ga ?_)
      refine W_loop (α := Nat) (fun k => [(0, .slice x1 l.length y1), (1, .slice x2 m.length y2), (5, .slice o4 B.length o5), (6, .int .i64 (i : Int)), (7, .int .i64 (k : Int))])
        (fun k A => k ≤ i ∧ Below w3.heap.size w3 A ∧ ∀ (b : Nat) (hb : b < B.length), b < k → ¬ Twice B[i] B[b]) (fun k _ => i - k) 0
        ⟨Nat.zero_le _, hbA, fun b _ h => absurd h (Nat.not_lt_zero _)⟩ ⟨rfl, rfl, rfl, rfl, rfl, trivial⟩ ?_
      clear hbA A
      rintro J k A ⟨hk, hbA, hnk⟩
      by_cases hki : k < i
      · have hPA := hP3.below hbA (Nat.le_refl _)
        obtain ⟨b, off, rfl, hbl1, hcx⟩ := hPA.at (i := i) hil
        obtain ⟨b', off', e, hbl2, hcy⟩ := hPA.at (i := k) (Nat.lt_trans hki hil)
        cases e
        have hxb := hcb B[i] (List.getElem_mem hil)
        have hyb := hcb B[k] (List.getElem_mem (Nat.lt_trans hki hil))
        have hkl' : k < B.length := Nat.lt_trans hki hil
        have hx : ∃ x, x = B[i] := ⟨_, rfl⟩
        have hy : ∃ y, y = B[k] := ⟨_, rfl⟩
        obtain ⟨x, hx⟩ := hx
        obtain ⟨y, hy⟩ := hy
        rw [← hx] at hcx hxb
        rw [← hy] at hcy hyb
        have fx : ∀ A9, Below A.heap.size A A9 → ∀ (j : Nat) (u : Value), (pcs x)[j]? = some u → A9.cell? ⟨b, off + i * 4 + j, none⟩ = some u := fun A9 hb9 j u hu => (hb9.cell (p := ⟨b, off + i * 4 + j, none⟩) hbl1).trans (hcx j u hu)
        have fy : ∀ A9, Below A.heap.size A A9 → ∀ (j : Nat) (u : Value), (pcs y)[j]? = some u → A9.cell? ⟨b, off + k * 4 + j, none⟩ = some u := fun A9 hb9 j u hu => (hb9.cell (p := ⟨b, off + k * 4 + j, none⟩) hbl1).trans (hcy j u hu)
        (refine Ga ?_)
        refine W_cutS (α := Nat × Nat) (fun p => [(0, .slice x1 l.length y1), (1, .slice x2 m.length y2), (5, .slice (some ⟨b, off, none⟩) B.length o5), (6, .int .i64 (i : Int)), (7, .int .i64 (k : Int)), (8, .pointer (some ⟨p.1, 0, none⟩)), (9, .pointer (some ⟨p.2, 0, none⟩))])
          (fun p A' => Below w3.heap.size w3 A' ∧ Blk A' p.1 (pcs x) 37 ∧ Blk A' p.2 (pcs y) 37) ?_ ?_
        · refine W_drawS 12 (fun A' => Below A.heap.size A A') rfl rfl ?_
          have hS : Below A.heap.size A A.drew := Below.drew (Below.refl _ A)
          generalize A.drew = X at *
          (refine S_take 0 11 rfl (by kernel_rfl) (by repeat (first | exact retQ_p | apply seqQ_p | apply blkQ_p | apply rndQ_p | apply cutQ_p)) hS ?_)
          (refine Gt ?_)
          (refine S_take 1 10 rfl (by kernel_rfl) (by repeat (first | exact retQ_p | apply seqQ_p | apply blkQ_p | apply rndQ_p | apply cutQ_p)) hS ?_)
          (refine Gt ?_)
          (refine S_take 2 9 rfl (by kernel_rfl) (by repeat (first | exact retQ_p | apply seqQ_p | apply blkQ_p | apply rndQ_p | apply cutQ_p)) hS ?_)
          apply Qst_pu
          · apply P_idx (sz := 4)
            focus rfl
            focus rfl
            focus rfl
            focus rfl
            focus rfl
            focus omega
            focus omega
          focus rfl
          rw [Int.toNat_natCast]
          (refine Gt ?_)
          (refine S_take 3 8 rfl (by kernel_rfl) (by repeat (first | exact retQ_p | apply seqQ_p | apply blkQ_p | apply rndQ_p | apply cutQ_p)) hS ?_)
          apply Qst_loadS (hc := fx)
          focus rfl
          focus rfl
          focus rfl
          focus rfl
          focus rfl
          focus rfl
          (refine Gt ?_)
          (refine S_take 4 7 rfl (by kernel_rfl) (by repeat (first | exact retQ_p | apply seqQ_p | apply blkQ_p | apply rndQ_p | apply cutQ_p)) hS ?_)
          (refine Gt ?_)
          (refine S_take 5 6 rfl (by kernel_rfl) (by repeat (first | exact retQ_p | apply seqQ_p | apply blkQ_p | apply rndQ_p | apply cutQ_p)) hS ?_)
          (refine Gt ?_)
          (refine S_take 6 5 rfl (by kernel_rfl) (by repeat (first | exact retQ_p | apply seqQ_p | apply blkQ_p | apply rndQ_p | apply cutQ_p)) hS ?_)
          apply Qst_pu
          · apply P_idx (sz := 4)
            focus rfl
            focus rfl
            focus rfl
            focus rfl
            focus rfl
            focus omega
            focus omega
          focus rfl
          rw [Int.toNat_natCast]
          (refine Gt ?_)
          (refine S_take 7 4 rfl (by kernel_rfl) (by repeat (first | exact retQ_p | apply seqQ_p | apply blkQ_p | apply rndQ_p | apply cutQ_p)) hS ?_)
          apply Qst_loadS (hc := fy)
          focus rfl
          focus rfl
          focus rfl
          focus rfl
          focus rfl
          focus rfl
          (refine Gt ?_)
          (refine S_any [8, 9] 3 rfl (by kernel_rfl) (all2 ?_ ?_))
          · apply Lst_alloc (hB := rfl)
            focus rfl
            focus rfl
            focus rfl
            focus rfl
            apply Lst_nil
            apply rnQ_n
            have hS1 : Below A.heap.size A (X.alloc (.cells [.int .u64 0, .int .u64 0, .string ⟨#[]⟩, .bool false].toArray 37)) := hS.alloc hS.size _
            have k1 : Blk (X.alloc (.cells [.int .u64 0, .int .u64 0, .string ⟨#[]⟩, .bool false].toArray 37)) X.heap.size [.int .u64 0, .int .u64 0, .string ⟨#[]⟩, .bool false] 37 := Blk.newE rfl _ _
            have e1 : (X.alloc (.cells [.int .u64 0, .int .u64 0, .string ⟨#[]⟩, .bool false].toArray 37)).heap.size = X.heap.size + 1 := World.size_alloc _ _
            have hq1 := hS.size
            generalize X.heap.size = q1 at *
            generalize X.alloc (.cells [.int .u64 0, .int .u64 0, .string ⟨#[]⟩, .bool false].toArray 37) = Y at *
            refine ⟨hS1, ?_⟩
            (refine S_any [9] 2 rfl (by kernel_rfl) (all1 ?_))
            apply Lst_alloc (hB := rfl)
            focus rfl
            focus rfl
            focus rfl
            focus rfl
            apply Lst_nil
            apply rnQ_n
            have hS2 : Below A.heap.size A (Y.alloc (.cells [.int .u64 0, .int .u64 0, .string ⟨#[]⟩, .bool false].toArray 37)) := hS1.alloc hS1.size _
            have k2 : Blk (Y.alloc (.cells [.int .u64 0, .int .u64 0, .string ⟨#[]⟩, .bool false].toArray 37)) Y.heap.size [.int .u64 0, .int .u64 0, .string ⟨#[]⟩, .bool false] 37 := Blk.newE rfl _ _
            have k1 := Blk.alloc k1 (.cells [.int .u64 0, .int .u64 0, .string ⟨#[]⟩, .bool false].toArray 37)
            have hq2 := hS1.size
            have hne : q1 ≠ Y.heap.size := by omega
            generalize Y.heap.size = q2 at *
            generalize Y.alloc (.cells [.int .u64 0, .int .u64 0, .string ⟨#[]⟩, .bool false].toArray 37) = V at *
            clear hS hS1
            refine ⟨hS2, ?_⟩
            (refine S_any [10] 1 rfl (by kernel_rfl) (all1 ?_))
            apply Lst_storeA (hb := k1) (vs := pcs x) (l' := pcs x)
            focus rfl
            focus rfl
            focus rfl
            focus rfl
            focus exact fun v hv => pcs_one [x] v (by simpa using hv)
            focus (unfold pcs; repeat constructor)
            apply Lst_nil
            apply rnQ_n
            have hS3 : Below A.heap.size A (V.putObj q1 (.cells (pcs x).toArray 37)) := Below.put hS2 (by omega) _
            have kx : Blk (V.putObj q1 (.cells (pcs x).toArray 37)) q1 (pcs x) 37 := Blk.put_same k1.lt _ _
            have ky : Blk (V.putObj q1 (.cells (pcs x).toArray 37)) q2 [.int .u64 0, .int .u64 0, .string ⟨#[]⟩, .bool false] 37 := Blk.put_ne (by omega) k2
            generalize V.putObj q1 (.cells (pcs x).toArray 37) = U at *
            clear k1 k2 hS2
            have hS := hS3
            refine ⟨hS3, ?_⟩
            (refine S_any [11] 0 rfl (by kernel_rfl) (all1 ?_))
            apply Lst_storeA (hb := ky) (vs := pcs y) (l' := pcs y)
            focus rfl
            focus rfl
            focus rfl
            focus rfl
            focus exact fun v hv => pcs_one [y] v (by simpa using hv)
            focus (unfold pcs; repeat constructor)
            apply Lst_nil
            apply rnQ_n
            have hS4 : Below A.heap.size A (U.putObj q2 (.cells (pcs y).toArray 37)) := Below.put hS3 (by omega) _
            refine ⟨hS4, ?_⟩
            refine S_done (by kernel_rfl) ?_
            exact cutQ_n (q1, q2) ⟨hbA.trans (hS4.mono hbA.size), Blk.put_ne (by omega) kx, Blk.put_same ky.lt _ _⟩ ⟨rfl, rfl, rfl, rfl, rfl, rfl, rfl, trivial⟩
          · apply Lst_alloc (hB := rfl)
            focus rfl
            focus rfl
            focus rfl
            focus rfl
            apply Lst_nil
            apply rnQ_n
            have hS1 : Below A.heap.size A (X.alloc (.cells [.int .u64 0, .int .u64 0, .string ⟨#[]⟩, .bool false].toArray 37)) := hS.alloc hS.size _
            have k1 : Blk (X.alloc (.cells [.int .u64 0, .int .u64 0, .string ⟨#[]⟩, .bool false].toArray 37)) X.heap.size [.int .u64 0, .int .u64 0, .string ⟨#[]⟩, .bool false] 37 := Blk.newE rfl _ _
            have e1 : (X.alloc (.cells [.int .u64 0, .int .u64 0, .string ⟨#[]⟩, .bool false].toArray 37)).heap.size = X.heap.size + 1 := World.size_alloc _ _
            have hq1 := hS.size
            generalize X.heap.size = q1 at *
            generalize X.alloc (.cells [.int .u64 0, .int .u64 0, .string ⟨#[]⟩, .bool false].toArray 37) = Y at *
            refine ⟨hS1, ?_⟩
            (refine S_any [8] 2 rfl (by kernel_rfl) (all1 ?_))
            apply Lst_alloc (hB := rfl)
            focus rfl
            focus rfl
            focus rfl
            focus rfl
            apply Lst_nil
            apply rnQ_n
            have hS2 : Below A.heap.size A (Y.alloc (.cells [.int .u64 0, .int .u64 0, .string ⟨#[]⟩, .bool false].toArray 37)) := hS1.alloc hS1.size _
            have k2 : Blk (Y.alloc (.cells [.int .u64 0, .int .u64 0, .string ⟨#[]⟩, .bool false].toArray 37)) Y.heap.size [.int .u64 0, .int .u64 0, .string ⟨#[]⟩, .bool false] 37 := Blk.newE rfl _ _
            have k1 := Blk.alloc k1 (.cells [.int .u64 0, .int .u64 0, .string ⟨#[]⟩, .bool false].toArray 37)
            have hq2 := hS1.size
            have hne : q1 ≠ Y.heap.size := by omega
            generalize Y.heap.size = q2 at *
            generalize Y.alloc (.cells [.int .u64 0, .int .u64 0, .string ⟨#[]⟩, .bool false].toArray 37) = V at *
            clear hS hS1
            refine ⟨hS2, ?_⟩
            (refine S_any [10] 1 rfl (by kernel_rfl) (all1 ?_))
            apply Lst_storeA (hb := k2) (vs := pcs x) (l' := pcs x)
            focus rfl
            focus rfl
            focus rfl
            focus rfl
            focus exact fun v hv => pcs_one [x] v (by simpa using hv)
            focus (unfold pcs; repeat constructor)
            apply Lst_nil
            apply rnQ_n
            have hS3 : Below A.heap.size A (V.putObj q2 (.cells (pcs x).toArray 37)) := Below.put hS2 (by omega) _
            have kx : Blk (V.putObj q2 (.cells (pcs x).toArray 37)) q2 (pcs x) 37 := Blk.put_same k2.lt _ _
            have ky : Blk (V.putObj q2 (.cells (pcs x).toArray 37)) q1 [.int .u64 0, .int .u64 0, .string ⟨#[]⟩, .bool false] 37 := Blk.put_ne (by omega) k1
            generalize V.putObj q2 (.cells (pcs x).toArray 37) = U at *
            clear k1 k2 hS2
            have hS := hS3
            refine ⟨hS3, ?_⟩
            (refine S_any [11] 0 rfl (by kernel_rfl) (all1 ?_))
            apply Lst_storeA (hb := ky) (vs := pcs y) (l' := pcs y)
            focus rfl
            focus rfl
            focus rfl
            focus rfl
            focus exact fun v hv => pcs_one [y] v (by simpa using hv)
            focus (unfold pcs; repeat constructor)
            apply Lst_nil
            apply rnQ_n
            have hS4 : Below A.heap.size A (U.putObj q1 (.cells (pcs y).toArray 37)) := Below.put hS3 (by omega) _
            refine ⟨hS4, ?_⟩
            refine S_done (by kernel_rfl) ?_
            exact cutQ_n (q2, q1) ⟨hbA.trans (hS4.mono hbA.size), Blk.put_ne (by omega) kx, Blk.put_same ky.lt _ _⟩ ⟨rfl, rfl, rfl, rfl, rfl, rfl, rfl, trivial⟩
        clear hbA hPA hcx hcy fx fy hbl1 hbl2 A
        rintro J ⟨p, q⟩ A ⟨hbA, kx, ky⟩
        dsimp only at kx ky ⊢
        have hnext : ¬ Twice x y → ∀ (b : Nat) (hb : b < B.length), b < k + 1 → ¬ Twice B[i] B[b] := fun h b hb hbk => by
          by_cases e : b = k
          · subst e
            rw [← hx, ← hy]
            exact h
          · exact hnk b hb (by omega)
        have hk1 : Value.int .i64 ((k : Int) + 1) = Value.int .i64 ((k + 1 : Nat) : Int) := by
          rw [Int.natCast_add]
          rfl
        unfold pcs at kx ky
        by_cases hc : x.c = y.c
        · by_cases hkk : x.k = y.k
          · cases hgx : x.g with
            | true =>
              rw [hgx] at kx
              cases hgy : y.g with
              | true =>
                rw [hgy] at ky
                (refine Ga ?_)
                exact rndQ_n (k + 1) ⟨by omega, hbA, hnext fun h => by rcases h with ⟨_, _, h | ⟨h, _⟩⟩ <;> simp_all⟩ ⟨rfl, rfl, rfl, rfl, hk1, trivial⟩ (by omega)
              | false =>
                rw [hgy] at ky
                (refine Ga ?_)
                (apply retQ1; (focus rfl))
                exact ⟨rfl, b3.trans (hbA.mono (by omega))⟩
            | false =>
              rw [hgx] at kx
              cases hgy : y.g with
              | true =>
                rw [hgy] at ky
                (refine Ga ?_)
                (apply retQ1; (focus rfl))
                exact ⟨rfl, b3.trans (hbA.mono (by omega))⟩
              | false =>
                rw [hgy] at ky
                by_cases hs : x.s = y.s
                · rw [hs] at kx
                  (refine Ga ?_)
                  exact rndQ_n (k + 1) ⟨by omega, hbA, hnext fun h => by rcases h with ⟨_, _, h | ⟨_, h⟩⟩ <;> simp_all⟩ ⟨rfl, rfl, rfl, rfl, hk1, trivial⟩ (by omega)
                · (refine Ga ?_)
                  (apply retQ1; (focus rfl))
                  exact ⟨rfl, b3.trans (hbA.mono (by omega))⟩
          · (refine Ga ?_)
            exact rndQ_n (k + 1) ⟨by omega, hbA, hnext fun h => hkk h.2.1⟩ ⟨rfl, rfl, rfl, rfl, hk1, trivial⟩ (by omega)
        · (refine Ga ?_)
          exact rndQ_n (k + 1) ⟨by omega, hbA, hnext fun h => hc h.1⟩ ⟨rfl, rfl, rfl, rfl, hk1, trivial⟩ (by omega)
      · obtain rfl : k = i := by omega
        (refine Ga ?_)
        refine rndQ_n (k + 1) ⟨by omega, hbA, ?_⟩ ⟨rfl, rfl, rfl, ?_, trivial⟩ (by omega)
        · intro a b ha hb hak hba
          by_cases e : a = k
          · subst e
            exact hnk b hb hba
          · exact hno a b ha hb (by omega) hba
        · show Value.int .i64 ((k : Int) + 1) = Value.int .i64 ((k + 1 : Nat) : Int)
          rw [Int.natCast_add]
          rfl
    · obtain rfl : i = B.length := by omega
      (refine Ga ?_)
      refine cutQ_n () ⟨hbA, ?_⟩ ⟨rfl, rfl, trivial⟩
      intro a b ha hb hlt hc hk
      exact nm_once (hno a b ha hb ha hlt) hc hk
  clear hP3 hcb hoc
  rintro J _ A ⟨hbA, hon⟩
  have b4 := b3.trans (hbA.mono (by omega))
  have sA := hbA.size
  have hpl4 := hpl3.below hbA (Nat.le_refl _)
  have hpm4 := hpm3.below hbA (Nat.le_refl _)
  clear hpl3 hpm3 hbA b3
  (refine Ga ?_)
  (apply Lst_call; (focus rfl); (focus rfl))
  refine (c_New 901 9 A).mono ?_
  rintro v w4 ⟨p, mb, rfl, hp, hm4, hA, bn1⟩
  (refine Ga ?_)
  (apply Lst_call; (focus rfl); (focus rfl))
  refine (c_New 902 9 w4).mono ?_
  rintro v w5 ⟨p2, mb2, rfl, hp2, hm5, hB5, bn2⟩
  have T : Two A w5 p mb p2 mb2 ⟨901, 9, 0, 0, []⟩ ⟨902, 9, 0, 0, []⟩ := Two.new hp hm4 hA bn1 hp2 hm5 hB5 bn2
  have hpl5 := hpl4.below T.bel (Nat.le_refl _)
  have hpm5 := hpm4.below T.bel (Nat.le_refl _)
  clear hA hB5 bn1 bn2 hp hm4 hp2 hm5 hpl4 hpm4
  (refine Ga ?_)
  (apply Lst_call; (focus rfl); (focus rfl))
  refine (c_give p mb _ _ l (by omega) w5 T.A ⟨hpl5, _, _, rfl, hxl⟩ hkl).mono ?_
  rintro r w6 ⟨hc6, hr⟩
  rcases hr with rfl | ⟨rfl, hokl, hA6⟩
  · (refine Ga ?_)
    (apply retQ1; (focus rfl))
    exact ⟨rfl, b4.trans ((T.belA hc6).mono b4.size)⟩
  have T6 := T.stepA hA6 hc6
  have hpm6 := T.A.prs hpm5 hc6
  (refine Ga ?_)
  (apply Lst_call; (focus rfl); (focus rfl))
  refine (c_give p2 mb2 _ _ m (by omega) w6 T6.B ⟨hpm6, _, _, rfl, hxm⟩ hkm).mono ?_
  rintro r w7 ⟨hc7, hr⟩
  rcases hr with rfl | ⟨rfl, hokm, hB7⟩
  · (refine Ga ?_)
    (apply retQ1; (focus rfl))
    exact ⟨rfl, b4.trans ((T6.belB hc7).mono b4.size)⟩
  have T7 := T6.stepB hB7 hc7
  have hfl : ∀ q ∈ l, Okp q ∧ q.k < 18446744073709551616 := fun q hq => ⟨hokl q hq, hkl q hq⟩
  have hfm : ∀ q ∈ m, Okp q ∧ q.k < 18446744073709551616 := fun q hq => ⟨hokm q hq, hkm q hq⟩
  obtain ⟨g1, _, n1, _⟩ := giveL_good (good_new (c := 901) (by omega) 9) hfl
  obtain ⟨g2, _, n2, _⟩ := giveL_good (good_new (c := 902) (by omega) 9) hfm
  have hcon : Cons (giveL l ⟨901, 9, 0, 0, []⟩) (giveL m ⟨902, 9, 0, 0, []⟩) := by
    subst hB
    exact cons_of hon hfl hfm (by omega) (by omega)
  have n1 : (giveL l ⟨901, 9, 0, 0, []⟩).es.length ≤ 30 := Nat.le_trans n1 (by show 0 + l.length ≤ 30; omega)
  have n2 : (giveL m ⟨902, 9, 0, 0, []⟩).es.length ≤ 30 := Nat.le_trans n2 (by show 0 + m.length ≤ 30; omega)
  clear hA6 hB7 T T6 hc6 hc7 hpl5 hpm5 hpm6
  generalize giveL l ⟨901, 9, 0, 0, []⟩ = a at *
  generalize giveL m ⟨902, 9, 0, 0, []⟩ = b at *
  have eb := es_good g2
  obtain ⟨ga, _, na⟩ := takeL_good g1 eb.1
  have ea := es_good ga
  obtain ⟨gb, _, nb⟩ := takeL_good g2 ea.1
  have hsame := both_same g1 g2 hcon
  have t1 := all_take (a := a) g2 (by omega)
  rw [List.length_map] at na nb
  have t2 := all_take (a := b) ga (by omega)
  have t3 : (a.takeL (b.es.map (·.p))).1.take (wrL ((b.takeL ((a.takeL (b.es.map (·.p))).1.es.map (·.p))).1.es.map (·.p))) = ((a.takeL (b.es.map (·.p))).1, false, 0) := by
    rw [hsame, all_take (a := (a.takeL (b.es.map (·.p))).1) ga (by omega), take_self ga]
  have l1 := wrL_bound (fun p hp => (eb.1 p hp).1) (by rw [List.length_map]; omega)
  have l2 := wrL_bound (fun p hp => (ea.1 p hp).1) (by rw [List.length_map]; omega)
  generalize (a.takeL (b.es.map (·.p))).2 = is1 at *
  generalize (a.takeL (b.es.map (·.p))).1 = a1 at *
  generalize (b.takeL (a1.es.map (·.p))).2 = is2 at *
  generalize (b.takeL (a1.es.map (·.p))).1 = b1' at *
  have fits : ∀ {x : Awr}, x.Good → ∀ e ∈ x.es, e.p.Fit := fun h e he => (h.ok e he).1.fit
  (refine Ga ?_)
  (apply Lst_call; (focus rfl); (focus rfl))
  refine (c_All p2 mb2 b (fits g2) l1 w7 T7.B).mono ?_
  rintro u w8 ⟨hu, hb8⟩
  have T8 := T7.below hb8
  obtain ⟨u1, u2, rfl⟩ := hu.form
  (refine Ga ?_)
  (apply Lst_call; (focus rfl); (focus rfl))
  refine (c_TakeE p mb a _ _ t1 l1 w8 T8.A hu).mono ?_
  rintro r w9 ⟨rfl, hA9, hc9⟩
  have T9 := T8.stepA hA9 hc9
  (refine Ga ?_)
  (apply Lst_call; (focus rfl); (focus rfl))
  refine (c_All p mb a1 (fits ga) l2 w9 T9.A).mono ?_
  rintro u w10 ⟨hu10, hb10⟩
  have T10 := T9.below hb10
  obtain ⟨u3, u4, rfl⟩ := hu10.form
  (refine Ga ?_)
  (apply Lst_call; (focus rfl); (focus rfl))
  refine (c_TakeE p2 mb2 b _ _ t2 l2 w10 T10.B hu10).mono ?_
  rintro r w11 ⟨rfl, hB11, hc11⟩
  have T11 := T10.stepB hB11 hc11
  have l3 : (wrL (b1'.es.map (·.p))).length ≤ 1000000 := by rw [hsame]; exact l2
  clear hu hu10 T7 T8 T9 T10 hA9 hB11 hc9 hc11 hb8 hb10
  cases is2 with
  | false =>
    have T := T11
    generalize w11 = W at *
    (refine Ga ?_)
    (apply Lst_call; (focus rfl); (focus rfl))
    refine (c_All p2 mb2 b1' (fits gb) l3 W T.B).mono ?_
    rintro u w8 ⟨hu, hb8⟩
    have T8 := T.below hb8
    obtain ⟨u1, u2, rfl⟩ := hu.form
    (refine Ga ?_)
    (apply Lst_call; (focus rfl); (focus rfl))
    refine (c_TakeE p mb a1 _ _ t3 l3 w8 T8.A hu).mono ?_
    rintro r w9 ⟨rfl, hA9, hc9⟩
    have T9 := T8.stepA hA9 hc9
    (refine Ga ?_)
    (apply Lst_call; (focus rfl); (focus rfl))
    refine (c_All p mb a1 (fits ga) l2 w9 T9.A).mono ?_
    rintro u w12 ⟨hu12, hb12⟩
    have T12 := T9.below hb12
    obtain ⟨u3, u4, rfl⟩ := hu12.form
    (refine Ga ?_)
    (apply Lst_call; (focus rfl); (focus rfl))
    refine (c_All p2 mb2 b1' (fits gb) l3 w12 T12.B).mono ?_
    rintro u w13 ⟨hu13, hb13⟩
    have T13 := T12.below hb13
    have hu12 := hu12.below hb13 (Nat.le_refl _)
    obtain ⟨u5, u6, rfl⟩ := hu13.form
    (refine Ga ?_)
    (apply Lst_call; (focus rfl); (focus rfl))
    refine (h_Bytes _ _ _ _ w13 hu12 hu13).mono ?_
    rintro r w14 ⟨rfl, rfl⟩
    rw [hsame, decide_eq_true rfl]
    (refine Ga ?_)
    (apply retQ1; (focus rfl))
    exact ⟨rfl, b4.trans (T13.bel.mono b4.size)⟩
  | true =>
    (refine Ga ?_)
    (apply Lst_call; (focus rfl); (focus rfl))
    refine (c_All p mb a1 (fits ga) l2 w11 T11.A).mono ?_
    rintro u w12 ⟨hu12, hb12⟩
    have T12 := T11.below hb12
    obtain ⟨u3, u4, rfl⟩ := hu12.form
    (refine Ga ?_)
    (apply Lst_call; (focus rfl); (focus rfl))
    refine (c_All p2 mb2 b1' (fits gb) l3 w12 T12.B).mono ?_
    rintro u w13 ⟨hu13, hb13⟩
    have T13 := T12.below hb13
    have hu12 := hu12.below hb13 (Nat.le_refl _)
    obtain ⟨u5, u6, rfl⟩ := hu13.form
    (refine Ga ?_)
    (apply Lst_call; (focus rfl); (focus rfl))
    refine (h_Bytes _ _ _ _ w13 hu12 hu13).mono ?_
    rintro r w14 ⟨rfl, rfl⟩
    rw [hsame, decide_eq_true rfl]
    have T := T13
    clear T11 T12 T13 hu12 hu13 hb12 hb13
    generalize w13 = W at *
    (refine Ga ?_)
    (apply Lst_call; (focus rfl); (focus rfl))
    refine (c_All p2 mb2 b1' (fits gb) l3 W T.B).mono ?_
    rintro u w8 ⟨hu, hb8⟩
    have T8 := T.below hb8
    obtain ⟨u1, u2, rfl⟩ := hu.form
    (refine Ga ?_)
    (apply Lst_call; (focus rfl); (focus rfl))
    refine (c_TakeE p mb a1 _ _ t3 l3 w8 T8.A hu).mono ?_
    rintro r w9 ⟨rfl, hA9, hc9⟩
    have T9 := T8.stepA hA9 hc9
    (refine Ga ?_)
    (apply Lst_call; (focus rfl); (focus rfl))
    refine (c_All p mb a1 (fits ga) l2 w9 T9.A).mono ?_
    rintro u w12 ⟨hu12, hb12⟩
    have T12 := T9.below hb12
    obtain ⟨u3, u4, rfl⟩ := hu12.form
    (refine Ga ?_)
    (apply Lst_call; (focus rfl); (focus rfl))
    refine (c_All p2 mb2 b1' (fits gb) l3 w12 T12.B).mono ?_
    rintro u w13 ⟨hu13, hb13⟩
    have T13 := T12.below hb13
    have hu12 := hu12.below hb13 (Nat.le_refl _)
    obtain ⟨u5, u6, rfl⟩ := hu13.form
    (refine Ga ?_)
    (apply Lst_call; (focus rfl); (focus rfl))
    refine (h_Bytes _ _ _ _ w13 hu12 hu13).mono ?_
    rintro r w14 ⟨rfl, rfl⟩
    rw [hsame, decide_eq_true rfl]
    (refine Ga ?_)
    (apply retQ1; (focus rfl))
    exact ⟨rfl, b4.trans (T13.bel.mono b4.size)⟩
end Aw
end Go.Proofs.Ytoljcnlmockpcaa
