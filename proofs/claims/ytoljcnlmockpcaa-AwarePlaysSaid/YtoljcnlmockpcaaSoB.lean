/- Sorting of []uint64: the parts of pdqsortOrdered. -/
import Derived.Test.YtoljcnlmockpcaaSoA
namespace Go.Proofs.Ytoljcnlmockpcaa
set_option maxRecDepth 100000
namespace So
open Go Go.RowKit Sx
open Go.Sort (swp ltInt)
attribute [local irreducible] W Lst Qst Pu seqQ blkQ rndQ cutQ retQ Does Enters IntKind.wrap bits sb World.alloc World.putObj Blk
attribute [local irreducible] Rn Tk rnQ
attribute [local irreducible] RnS
set_option maxHeartbeats 4000000 in
theorem c_part (b a L p m c : Nat) (d : Array Int) (post : List Value) (hm : m = d.size) (hh : a + L ≤ d.size) (hL : 1 ≤ L) (hp2 : p < a + L) (hsz : d.size < 1152921504606846976) (w : World) (h : Arr w b d post) :
    Does Try.prog 85 #[.slice (some ⟨b, 0, none⟩) m c, .int .i64 (a : Int), .int .i64 ((a + L : Nat) : Int), .int .i64 (p : Int)] w fun v w' => v = .tuple #[.int .i64 ((Go.Sort.partition ltInt d a (a + L) p).1 : Int), .bool (Go.Sort.partition ltInt d a (a + L) p).2.1] ∧ Arr w' b (Go.Sort.partition ltInt d a (a + L) p).2.2 post ∧ Chg [b] w w' := by
  refine Does_of (args := [.slice (some ⟨b, 0, none⟩) m c, .int .i64 (a : Int), .int .i64 ((a + L : Nat) : Int), .int .i64 (p : Int)]) Try.func85 (by kernel_rfl) rfl rfl rfl rfl rfl ?_
  generalize hG : Go.Sort.partition ltInt d a (a + L) p = G
  unfold Go.Sort.partition at hG
  subst hm
  refine W_at (h := h) ?_
  clear h
  intro A hA hc
  (refine Ga ?_)
  have hks := swp_size d a p
  first | refine W_cutS (α := Unit) (fun _ => [(0, .slice (some ⟨b, 0, none⟩) d.size c), (1, .int .i64 (a : Int)), (2, .int .i64 ((a + L : Nat) : Int))]) (fun _ A' => Arr A' b (Go.Sort.swp d a p) post ∧ Chg [b] w A') ?_ ?_ | refine W_cutB (α := Unit) (fun _ => [(0, .slice (some ⟨b, 0, none⟩) d.size c), (1, .int .i64 (a : Int)), (2, .int .i64 ((a + L : Nat) : Int))]) (fun _ A' => Arr A' b (Go.Sort.swp d a p) post ∧ Chg [b] w A') ?_ ?_
  · skip
    have hAd : Arr A.drew b d post := Blk.drew hA
    have hkl := us_len d
    have cI := hAd.cell a (by omega) (0 + a) (by omega)
    have cJ := hAd.cell p (by omega) (0 + p) (by omega)
    refine W_drawS 16 (fun _ => True) rfl rfl ?_
    (refine S_take 0 15 rfl (by kernel_rfl) (by repeat (first | exact retQ_p | apply seqQ_p | apply blkQ_p | apply rndQ_p | apply cutQ_p)) trivial ?_)
    (refine Gt ?_)
    (refine S_take 1 14 rfl (by kernel_rfl) (by repeat (first | exact retQ_p | apply seqQ_p | apply blkQ_p | apply rndQ_p | apply cutQ_p)) trivial ?_)
    (refine Gt ?_)
    (refine S_take 2 13 rfl (by kernel_rfl) (by repeat (first | exact retQ_p | apply seqQ_p | apply blkQ_p | apply rndQ_p | apply cutQ_p)) trivial ?_)
    (refine Gt ?_)
    (refine S_take 3 12 rfl (by kernel_rfl) (by repeat (first | exact retQ_p | apply seqQ_p | apply blkQ_p | apply rndQ_p | apply cutQ_p)) trivial ?_)
    (refine Gt ?_)
    (refine S_take 4 11 rfl (by kernel_rfl) (by repeat (first | exact retQ_p | apply seqQ_p | apply blkQ_p | apply rndQ_p | apply cutQ_p)) trivial ?_)
    (refine Gt ?_)
    (refine S_take 5 10 rfl (by kernel_rfl) (by repeat (first | exact retQ_p | apply seqQ_p | apply blkQ_p | apply rndQ_p | apply cutQ_p)) trivial ?_)
    (refine Gt ?_)
    (refine S_take 6 9 rfl (by kernel_rfl) (by repeat (first | exact retQ_p | apply seqQ_p | apply blkQ_p | apply rndQ_p | apply cutQ_p)) trivial ?_)
    (apply Qst_pu; (focus (first | (apply P_idx1; (focus rfl); (focus rfl); (focus rfl); (focus rfl); (focus rfl); (focus omega)) | (apply P_idxu; (focus rfl); (focus rfl); (focus rfl); (focus rfl); (focus rfl); (focus omega); (focus omega)))); (focus rfl); (repeat' (first | (apply Qst_nil) | (apply rnQ_k; (focus (exact trivial))))))
    (refine S_take 8 8 rfl (by kernel_rfl) (by repeat (first | exact retQ_p | apply seqQ_p | apply blkQ_p | apply rndQ_p | apply cutQ_p)) trivial ?_)
    (refine Gt ?_)
    (refine S_take 9 7 rfl (by kernel_rfl) (by repeat (first | exact retQ_p | apply seqQ_p | apply blkQ_p | apply rndQ_p | apply cutQ_p)) trivial ?_)
    (refine Gt ?_)
    (refine S_take 10 6 rfl (by kernel_rfl) (by repeat (first | exact retQ_p | apply seqQ_p | apply blkQ_p | apply rndQ_p | apply cutQ_p)) trivial ?_)
    (apply Qst_pu; (focus (first | (apply P_idx1; (focus rfl); (focus rfl); (focus rfl); (focus rfl); (focus rfl); (focus omega)) | (apply P_idxu; (focus rfl); (focus rfl); (focus rfl); (focus rfl); (focus rfl); (focus omega); (focus omega)))); (focus rfl); (repeat' (first | (apply Qst_nil) | (apply rnQ_k; (focus (exact trivial))))))
    refine S_any [7, 11] 5 rfl (by kernel_rfl) (all2 ?_ ?_)
    all_goals (refine Gt ?_)
    all_goals (refine ⟨trivial, ?_⟩)
    rotate_left
    (refine S_any [7] 4 rfl (by kernel_rfl) (all1 ?_))
    rotate_left
    (refine S_any [11] 4 rfl (by kernel_rfl) (all1 ?_))
    all_goals (refine Gt ?_)
    all_goals (refine ⟨trivial, ?_⟩)
    all_goals (refine S_take 12 3 rfl (by kernel_rfl) (by repeat (first | exact retQ_p | apply seqQ_p | apply blkQ_p | apply rndQ_p | apply cutQ_p)) trivial ?_)
    all_goals (apply Qst_pu; (focus (first | (apply P_idx1; (focus rfl); (focus rfl); (focus rfl); (focus rfl); (focus rfl); (focus omega)) | (apply P_idxu; (focus rfl); (focus rfl); (focus rfl); (focus rfl); (focus rfl); (focus omega); (focus omega)))); (focus rfl); (repeat' (first | (apply Qst_nil) | (apply rnQ_k; (focus (exact trivial))))))
    all_goals (refine S_any [13] 2 rfl (by kernel_rfl) (all1 ?_))
    all_goals (apply Lst_put (i := a) (hb := hAd); (focus rfl); (focus rfl); (focus rfl); (focus rfl); (focus omega); (focus (first | (rw [List.length_append]; omega) | (rw [List.length_set, List.length_append]; omega))))
    all_goals (refine Gt ?_)
    all_goals (refine ⟨trivial, ?_⟩)
    all_goals (refine S_take 14 1 rfl (by kernel_rfl) (by repeat (first | exact retQ_p | apply seqQ_p | apply blkQ_p | apply rndQ_p | apply cutQ_p)) trivial ?_)
    all_goals (apply Qst_pu; (focus (first | (apply P_idx1; (focus rfl); (focus rfl); (focus rfl); (focus rfl); (focus rfl); (focus omega)) | (apply P_idxu; (focus rfl); (focus rfl); (focus rfl); (focus rfl); (focus rfl); (focus omega); (focus omega)))); (focus rfl); (repeat' (first | (apply Qst_nil) | (apply rnQ_k; (focus (exact trivial))))))
    all_goals (refine S_any [15] 0 rfl (by kernel_rfl) (all1 ?_))
    all_goals (apply Lst_put (i := p) (hb := Blk.put_same hAd.lt _ _); (focus rfl); (focus rfl); (focus rfl); (focus rfl); (focus omega); (focus (first | (rw [List.length_append]; omega) | (rw [List.length_set, List.length_append]; omega))))
    all_goals (refine Gt ?_)
    all_goals (refine ⟨trivial, ?_⟩)
    all_goals (refine S_done (by kernel_rfl) ?_)
    all_goals have hA2 : Arr ((A.drew.putObj b (.cells ((us d ++ post).set a (.int .u64 d[p]!)).toArray 27)).putObj b (.cells (((us d ++ post).set a (.int .u64 d[p]!)).set p (.int .u64 d[a]!)).toArray 27)) b (Go.Sort.swp d a p) post := by unfold Arr; rw [us_swp d post a p (by omega) (by omega)]; exact Blk.put_same (by rw [World.putObj_size]; exact hAd.lt) _ _
    all_goals have hc2 : Chg [b] w ((A.drew.putObj b (.cells ((us d ++ post).set a (.int .u64 d[p]!)).toArray 27)).putObj b (.cells (((us d ++ post).set a (.int .u64 d[p]!)).set p (.int .u64 d[a]!)).toArray 27)) := (hc.drew.put (by simp) _).put (by simp) _
    all_goals have hks2 := swp_size d a p
    all_goals generalize (A.drew.putObj b (.cells ((us d ++ post).set a (.int .u64 d[p]!)).toArray 27)).putObj b (.cells (((us d ++ post).set a (.int .u64 d[p]!)).set p (.int .u64 d[a]!)).toArray 27) = A2 at *
    all_goals (first | apply blkQ_n | skip)
    all_goals exact cutQ_n () ⟨hA2, hc2⟩ ⟨rfl, rfl, rfl, trivial⟩
  clear hA hc
  rintro Jc ⟨⟩ A ⟨hA, hc⟩
  generalize swp d a p = k at *
  (refine Ga ?_)
  refine W_cutB (α := Nat) (fun x => [(0, .slice (some ⟨b, 0, none⟩) d.size c), (1, .int .i64 (a : Int)), (10, .int .i64 (x : Int)), (11, .int .i64 (((a + L - 1) : Nat) : Int))]) (fun x A => x = Go.Sort.scanUp (fun x => ltInt x k[a]!) k (a + L - 1) (a + 1) ∧ Arr A b k post ∧ Chg [b] w A) ?_ ?_
  · generalize hR : Go.Sort.scanUp (fun x => ltInt x k[a]!) k (a + L - 1) (a + 1) = R
    refine W_loop (α := Nat) (fun x => [(0, .slice (some ⟨b, 0, none⟩) d.size c), (1, .int .i64 (a : Int)), (10, .int .i64 (x : Int)), (11, .int .i64 (((a + L - 1) : Nat) : Int))])
      (fun x A => Go.Sort.scanUp (fun x => ltInt x k[a]!) k (a + L - 1) x = R ∧ Arr A b k post ∧ Chg [b] w A) (fun x _ => (a + L - 1) + 1 - x) ((a + 1))
      ⟨hR, hA, hc⟩ ⟨rfl, rfl, by show Value.int .i64 ((a : Int) + 1) = Value.int .i64 ((a + 1 : Nat) : Int); rw [Int.natCast_add]; rfl, by show Value.int .i64 (((a + L : Nat) : Int) - 1) = Value.int .i64 ((a + L - 1 : Nat) : Int); congr 1; omega, trivial⟩ ?_
    clear hR hA hc
    rintro Jr x A ⟨hR, hA, hc⟩
    rw [Go.Sort.scanUp] at hR
    by_cases hx : x ≤ (a + L - 1)
    · have hAd : Arr A.drew b k post := Blk.drew hA
      have c1 := hAd.cell x (by omega) (0 + x) (by omega)
      have c2 := hAd.cell a (by omega) (0 + a) (by omega)
      have hless := fun A => c_Less k[x]! k[a]! A
      (refine Ga ?_)
      rcases hl : ltInt k[x]! k[a]! with _ | _
      · rw [hl] at hless
        refine W_draws (fun A' => A' = World.drew A) rfl (by kernel_rfl) rfl ?_
        (refine Qa ?_)
        apply Qst_call (.bool false)
        focus rfl
        focus rfl
        · rintro _ rfl
          exact (hless _).mono fun v w' h => ⟨h.1, h.2.symm⟩
        (refine Qa ?_)
        rintro A' rfl
        clear c1 c2 hless
        have hcd := hc.drew
        clear hA hc
        have hA := hAd
        have hc := hcd
        clear hAd hcd
        generalize A.drew = A at *
        (refine Ga ?_)
        exact cutQ_n x ⟨by rw [if_neg (by simp [hl])] at hR; exact hR, hA, hc⟩ ⟨rfl, rfl, rfl, rfl, trivial⟩
      · rw [hl] at hless
        refine W_draws (fun A' => A' = World.drew A) rfl (by kernel_rfl) rfl ?_
        (refine Qa ?_)
        apply Qst_call (.bool true)
        focus rfl
        focus rfl
        · rintro _ rfl
          exact (hless _).mono fun v w' h => ⟨h.1, h.2.symm⟩
        (refine Qa ?_)
        rintro A' rfl
        clear c1 c2 hless
        have hcd := hc.drew
        clear hA hc
        have hA := hAd
        have hc := hcd
        clear hAd hcd
        generalize A.drew = A at *
        (refine Ga ?_)
        refine rndQ_n (α := Nat) (x + 1) ⟨by rw [if_pos (by simp [hl, hx])] at hR; exact hR, hA, hc⟩ ⟨rfl, rfl, by show Value.int .i64 ((x : Int) + 1) = Value.int .i64 ((x + 1 : Nat) : Int); rw [Int.natCast_add]; rfl, rfl, trivial⟩ (by omega)
    · have hR2 : x = R := by rw [if_neg (by simp [hx])] at hR; exact hR
      (refine Ga ?_)
      have hAd := Blk.drew hA
      refine W_draws (fun A' => A' = World.drew A) rfl (by kernel_rfl) rfl ?_
      (refine Qa ?_)
      rintro A' rfl
      have hcd := hc.drew
      clear hA hc
      have hA := hAd
      have hc := hcd
      clear hAd hcd
      generalize A.drew = A at *
      (refine Ga ?_)
      exact cutQ_n x ⟨hR2, hA, hc⟩ ⟨rfl, rfl, rfl, rfl, trivial⟩
  clear hA hc
  rintro Jc i2 A ⟨hi2, hA, hc⟩
  have hi2g := up_ge (fun x => ltInt x k[a]!) k (a + L - 1) (a + 1)
  rw [← hi2] at hi2g
  (refine Ga ?_)
  refine W_cutB (α := Nat) (fun x => [(0, .slice (some ⟨b, 0, none⟩) d.size c), (1, .int .i64 (a : Int)), (10, .int .i64 ((i2 : Nat) : Int)), (11, .int .i64 (x : Int))]) (fun x A => x = Go.Sort.scanDown (fun x => !ltInt x k[a]!) k i2 (a + L - 1) ∧ Arr A b k post ∧ Chg [b] w A) ?_ ?_
  · generalize hR : Go.Sort.scanDown (fun x => !ltInt x k[a]!) k i2 (a + L - 1) = R
    refine W_loop (α := Nat) (fun x => [(0, .slice (some ⟨b, 0, none⟩) d.size c), (1, .int .i64 (a : Int)), (10, .int .i64 ((i2 : Nat) : Int)), (11, .int .i64 (x : Int))])
      (fun x A => x ≤ (a + L - 1) ∧ Go.Sort.scanDown (fun x => !ltInt x k[a]!) k i2 x = R ∧ Arr A b k post ∧ Chg [b] w A) (fun x _ => x) ((a + L - 1))
      ⟨Nat.le_refl _, hR, hA, hc⟩ ⟨rfl, rfl, rfl, rfl, trivial⟩ ?_
    clear hR hA hc
    rintro Jr x A ⟨hx3, hR, hA, hc⟩
    by_cases hx : i2 ≤ x
    · obtain ⟨q, rfl⟩ : ∃ q, x = q + 1 := ⟨x - 1, by omega⟩
      rw [Go.Sort.scanDown] at hR
      have hAd : Arr A.drew b k post := Blk.drew hA
      have c1 := hAd.cell (q + 1) (by omega) (0 + (q + 1)) (by omega)
      have c2 := hAd.cell a (by omega) (0 + a) (by omega)
      have hless := fun A => c_Less k[q + 1]! k[a]! A
      (refine Ga ?_)
      rcases hl : ltInt k[q + 1]! k[a]! with _ | _
      · rw [hl] at hless
        refine W_draws (fun A' => A' = World.drew A) rfl (by kernel_rfl) rfl ?_
        (refine Qa ?_)
        apply Qst_call (.bool false)
        focus rfl
        focus rfl
        · rintro _ rfl
          exact (hless _).mono fun v w' h => ⟨h.1, h.2.symm⟩
        (refine Qa ?_)
        rintro A' rfl
        clear c1 c2 hless
        have hcd := hc.drew
        clear hA hc
        have hA := hAd
        have hc := hcd
        clear hAd hcd
        generalize A.drew = A at *
        (refine Ga ?_)
        refine rndQ_n (α := Nat) q ⟨by omega, by rw [if_pos (by simp [hl]; omega)] at hR; exact hR, hA, hc⟩ ⟨rfl, rfl, rfl, by show Value.int .i64 (((q + 1 : Nat) : Int) - 1) = Value.int .i64 (q : Int); congr 1; omega, trivial⟩ (Nat.lt_succ_self _)
      · rw [hl] at hless
        refine W_draws (fun A' => A' = World.drew A) rfl (by kernel_rfl) rfl ?_
        (refine Qa ?_)
        apply Qst_call (.bool true)
        focus rfl
        focus rfl
        · rintro _ rfl
          exact (hless _).mono fun v w' h => ⟨h.1, h.2.symm⟩
        (refine Qa ?_)
        rintro A' rfl
        clear c1 c2 hless
        have hcd := hc.drew
        clear hA hc
        have hA := hAd
        have hc := hcd
        clear hAd hcd
        generalize A.drew = A at *
        (refine Ga ?_)
        exact cutQ_n (q + 1) ⟨by rw [if_neg (by simp [hl])] at hR; exact hR, hA, hc⟩ ⟨rfl, rfl, rfl, rfl, trivial⟩
    · have hR2 : x = R := by
        rcases x with _ | q
        · exact hR
        · rw [Go.Sort.scanDown, if_neg (by simp; omega)] at hR
          exact hR
      (refine Ga ?_)
      have hAd := Blk.drew hA
      refine W_draws (fun A' => A' = World.drew A) rfl (by kernel_rfl) rfl ?_
      (refine Qa ?_)
      rintro A' rfl
      have hcd := hc.drew
      clear hA hc
      have hA := hAd
      have hc := hcd
      clear hAd hcd
      generalize A.drew = A at *
      (refine Ga ?_)
      exact cutQ_n x ⟨hR2, hA, hc⟩ ⟨rfl, rfl, rfl, rfl, trivial⟩
  clear hA hc
  rintro Jc j2 A ⟨hj2, hA, hc⟩
  have hj2l := down_le (fun x => !ltInt x k[a]!) k i2 (a + L - 1)
  rw [← hj2] at hj2l
  have hG1 : (if i2 > j2 then (j2, true, swp k j2 a) else ((Go.Sort.partLoop ltInt a (i2 + 1) (j2 - 1) (swp k i2 j2)).1, false, swp (Go.Sort.partLoop ltInt a (i2 + 1) (j2 - 1) (swp k i2 j2)).2 (Go.Sort.partLoop ltInt a (i2 + 1) (j2 - 1) (swp k i2 j2)).1 a)) = G := by
    rw [← hG, hj2, hi2]
  clear hG hi2 hj2
  by_cases hij : i2 > j2
  · rw [if_pos hij] at hG1
    subst hG1
    (refine Ga ?_)
    first | refine W_cutS (α := Unit) (fun _ => [(11, .int .i64 (j2 : Int))]) (fun _ A' => Arr A' b (Go.Sort.swp k j2 a) post ∧ Chg [b] w A') ?_ ?_ | refine W_cutB (α := Unit) (fun _ => [(11, .int .i64 (j2 : Int))]) (fun _ A' => Arr A' b (Go.Sort.swp k j2 a) post ∧ Chg [b] w A') ?_ ?_
    · skip
      have hAd : Arr A.drew b k post := Blk.drew hA
      have hkl := us_len k
      have cI := hAd.cell j2 (by omega) (0 + j2) (by omega)
      have cJ := hAd.cell a (by omega) (0 + a) (by omega)
      refine W_drawS 16 (fun _ => True) rfl rfl ?_
      (refine S_take 0 15 rfl (by kernel_rfl) (by repeat (first | exact retQ_p | apply seqQ_p | apply blkQ_p | apply rndQ_p | apply cutQ_p)) trivial ?_)
      (refine Gt ?_)
      (refine S_take 1 14 rfl (by kernel_rfl) (by repeat (first | exact retQ_p | apply seqQ_p | apply blkQ_p | apply rndQ_p | apply cutQ_p)) trivial ?_)
      (refine Gt ?_)
      (refine S_take 2 13 rfl (by kernel_rfl) (by repeat (first | exact retQ_p | apply seqQ_p | apply blkQ_p | apply rndQ_p | apply cutQ_p)) trivial ?_)
      (refine Gt ?_)
      (refine S_take 3 12 rfl (by kernel_rfl) (by repeat (first | exact retQ_p | apply seqQ_p | apply blkQ_p | apply rndQ_p | apply cutQ_p)) trivial ?_)
      (refine Gt ?_)
      (refine S_take 4 11 rfl (by kernel_rfl) (by repeat (first | exact retQ_p | apply seqQ_p | apply blkQ_p | apply rndQ_p | apply cutQ_p)) trivial ?_)
      (refine Gt ?_)
      (refine S_take 5 10 rfl (by kernel_rfl) (by repeat (first | exact retQ_p | apply seqQ_p | apply blkQ_p | apply rndQ_p | apply cutQ_p)) trivial ?_)
      (refine Gt ?_)
      (refine S_take 6 9 rfl (by kernel_rfl) (by repeat (first | exact retQ_p | apply seqQ_p | apply blkQ_p | apply rndQ_p | apply cutQ_p)) trivial ?_)
      (apply Qst_pu; (focus (first | (apply P_idx1; (focus rfl); (focus rfl); (focus rfl); (focus rfl); (focus rfl); (focus omega)) | (apply P_idxu; (focus rfl); (focus rfl); (focus rfl); (focus rfl); (focus rfl); (focus omega); (focus omega)))); (focus rfl); (repeat' (first | (apply Qst_nil) | (apply rnQ_k; (focus (exact trivial))))))
      (refine S_take 8 8 rfl (by kernel_rfl) (by repeat (first | exact retQ_p | apply seqQ_p | apply blkQ_p | apply rndQ_p | apply cutQ_p)) trivial ?_)
      (refine Gt ?_)
      (refine S_take 9 7 rfl (by kernel_rfl) (by repeat (first | exact retQ_p | apply seqQ_p | apply blkQ_p | apply rndQ_p | apply cutQ_p)) trivial ?_)
      (refine Gt ?_)
      (refine S_take 10 6 rfl (by kernel_rfl) (by repeat (first | exact retQ_p | apply seqQ_p | apply blkQ_p | apply rndQ_p | apply cutQ_p)) trivial ?_)
      (apply Qst_pu; (focus (first | (apply P_idx1; (focus rfl); (focus rfl); (focus rfl); (focus rfl); (focus rfl); (focus omega)) | (apply P_idxu; (focus rfl); (focus rfl); (focus rfl); (focus rfl); (focus rfl); (focus omega); (focus omega)))); (focus rfl); (repeat' (first | (apply Qst_nil) | (apply rnQ_k; (focus (exact trivial))))))
      refine S_any [7, 11] 5 rfl (by kernel_rfl) (all2 ?_ ?_)
      all_goals (refine Gt ?_)
      all_goals (refine ⟨trivial, ?_⟩)
      rotate_left
      (refine S_any [7] 4 rfl (by kernel_rfl) (all1 ?_))
      rotate_left
      (refine S_any [11] 4 rfl (by kernel_rfl) (all1 ?_))
      all_goals (refine Gt ?_)
      all_goals (refine ⟨trivial, ?_⟩)
      all_goals (refine S_take 12 3 rfl (by kernel_rfl) (by repeat (first | exact retQ_p | apply seqQ_p | apply blkQ_p | apply rndQ_p | apply cutQ_p)) trivial ?_)
      all_goals (apply Qst_pu; (focus (first | (apply P_idx1; (focus rfl); (focus rfl); (focus rfl); (focus rfl); (focus rfl); (focus omega)) | (apply P_idxu; (focus rfl); (focus rfl); (focus rfl); (focus rfl); (focus rfl); (focus omega); (focus omega)))); (focus rfl); (repeat' (first | (apply Qst_nil) | (apply rnQ_k; (focus (exact trivial))))))
      all_goals (refine S_any [13] 2 rfl (by kernel_rfl) (all1 ?_))
      all_goals (apply Lst_put (i := j2) (hb := hAd); (focus rfl); (focus rfl); (focus rfl); (focus rfl); (focus omega); (focus (first | (rw [List.length_append]; omega) | (rw [List.length_set, List.length_append]; omega))))
      all_goals (refine Gt ?_)
      all_goals (refine ⟨trivial, ?_⟩)
      all_goals (refine S_take 14 1 rfl (by kernel_rfl) (by repeat (first | exact retQ_p | apply seqQ_p | apply blkQ_p | apply rndQ_p | apply cutQ_p)) trivial ?_)
      all_goals (apply Qst_pu; (focus (first | (apply P_idx1; (focus rfl); (focus rfl); (focus rfl); (focus rfl); (focus rfl); (focus omega)) | (apply P_idxu; (focus rfl); (focus rfl); (focus rfl); (focus rfl); (focus rfl); (focus omega); (focus omega)))); (focus rfl); (repeat' (first | (apply Qst_nil) | (apply rnQ_k; (focus (exact trivial))))))
      all_goals (refine S_any [15] 0 rfl (by kernel_rfl) (all1 ?_))
      all_goals (apply Lst_put (i := a) (hb := Blk.put_same hAd.lt _ _); (focus rfl); (focus rfl); (focus rfl); (focus rfl); (focus omega); (focus (first | (rw [List.length_append]; omega) | (rw [List.length_set, List.length_append]; omega))))
      all_goals (refine Gt ?_)
      all_goals (refine ⟨trivial, ?_⟩)
      all_goals (refine S_done (by kernel_rfl) ?_)
      all_goals have hA2 : Arr ((A.drew.putObj b (.cells ((us k ++ post).set j2 (.int .u64 k[a]!)).toArray 27)).putObj b (.cells (((us k ++ post).set j2 (.int .u64 k[a]!)).set a (.int .u64 k[j2]!)).toArray 27)) b (Go.Sort.swp k j2 a) post := by unfold Arr; rw [us_swp k post j2 a (by omega) (by omega)]; exact Blk.put_same (by rw [World.putObj_size]; exact hAd.lt) _ _
      all_goals have hc2 : Chg [b] w ((A.drew.putObj b (.cells ((us k ++ post).set j2 (.int .u64 k[a]!)).toArray 27)).putObj b (.cells (((us k ++ post).set j2 (.int .u64 k[a]!)).set a (.int .u64 k[j2]!)).toArray 27)) := (hc.drew.put (by simp) _).put (by simp) _
      all_goals have hks2 := swp_size k j2 a
      all_goals generalize (A.drew.putObj b (.cells ((us k ++ post).set j2 (.int .u64 k[a]!)).toArray 27)).putObj b (.cells (((us k ++ post).set j2 (.int .u64 k[a]!)).set a (.int .u64 k[j2]!)).toArray 27) = A2 at *
      all_goals (first | apply blkQ_n | skip)
      all_goals exact cutQ_n () ⟨hA2, hc2⟩ ⟨rfl, trivial⟩
    clear hA hc
    rintro Jc ⟨⟩ A ⟨hA, hc⟩
    (refine Ga ?_)
    (apply retQ2; (focus rfl); (focus rfl))
    exact ⟨rfl, hA, hc⟩
  · rw [if_neg hij] at hG1
    generalize hR : Go.Sort.partLoop ltInt a (i2 + 1) (j2 - 1) (swp k i2 j2) = R at hG1
    subst hG1
    have hks2 := swp_size k i2 j2
    (refine Ga ?_)
    first | refine W_cutS (α := Unit) (fun _ => [(0, .slice (some ⟨b, 0, none⟩) d.size c), (1, .int .i64 (a : Int)), (10, .int .i64 (i2 : Int)), (11, .int .i64 (j2 : Int))]) (fun _ A' => Arr A' b (Go.Sort.swp k i2 j2) post ∧ Chg [b] w A') ?_ ?_ | refine W_cutB (α := Unit) (fun _ => [(0, .slice (some ⟨b, 0, none⟩) d.size c), (1, .int .i64 (a : Int)), (10, .int .i64 (i2 : Int)), (11, .int .i64 (j2 : Int))]) (fun _ A' => Arr A' b (Go.Sort.swp k i2 j2) post ∧ Chg [b] w A') ?_ ?_
    · skip
      have hAd : Arr A.drew b k post := Blk.drew hA
      have hkl := us_len k
      have cI := hAd.cell i2 (by omega) (0 + i2) (by omega)
      have cJ := hAd.cell j2 (by omega) (0 + j2) (by omega)
      refine W_drawS 16 (fun _ => True) rfl rfl ?_
      (refine S_take 0 15 rfl (by kernel_rfl) (by repeat (first | exact retQ_p | apply seqQ_p | apply blkQ_p | apply rndQ_p | apply cutQ_p)) trivial ?_)
      (refine Gt ?_)
      (refine S_take 1 14 rfl (by kernel_rfl) (by repeat (first | exact retQ_p | apply seqQ_p | apply blkQ_p | apply rndQ_p | apply cutQ_p)) trivial ?_)
      (refine Gt ?_)
      (refine S_take 2 13 rfl (by kernel_rfl) (by repeat (first | exact retQ_p | apply seqQ_p | apply blkQ_p | apply rndQ_p | apply cutQ_p)) trivial ?_)
      (refine Gt ?_)
      (refine S_take 3 12 rfl (by kernel_rfl) (by repeat (first | exact retQ_p | apply seqQ_p | apply blkQ_p | apply rndQ_p | apply cutQ_p)) trivial ?_)
      (refine Gt ?_)
      (refine S_take 4 11 rfl (by kernel_rfl) (by repeat (first | exact retQ_p | apply seqQ_p | apply blkQ_p | apply rndQ_p | apply cutQ_p)) trivial ?_)
      (refine Gt ?_)
      (refine S_take 5 10 rfl (by kernel_rfl) (by repeat (first | exact retQ_p | apply seqQ_p | apply blkQ_p | apply rndQ_p | apply cutQ_p)) trivial ?_)
      (refine Gt ?_)
      (refine S_take 6 9 rfl (by kernel_rfl) (by repeat (first | exact retQ_p | apply seqQ_p | apply blkQ_p | apply rndQ_p | apply cutQ_p)) trivial ?_)
      (apply Qst_pu; (focus (first | (apply P_idx1; (focus rfl); (focus rfl); (focus rfl); (focus rfl); (focus rfl); (focus omega)) | (apply P_idxu; (focus rfl); (focus rfl); (focus rfl); (focus rfl); (focus rfl); (focus omega); (focus omega)))); (focus rfl); (repeat' (first | (apply Qst_nil) | (apply rnQ_k; (focus (exact trivial))))))
      (refine S_take 8 8 rfl (by kernel_rfl) (by repeat (first | exact retQ_p | apply seqQ_p | apply blkQ_p | apply rndQ_p | apply cutQ_p)) trivial ?_)
      (refine Gt ?_)
      (refine S_take 9 7 rfl (by kernel_rfl) (by repeat (first | exact retQ_p | apply seqQ_p | apply blkQ_p | apply rndQ_p | apply cutQ_p)) trivial ?_)
      (refine Gt ?_)
      (refine S_take 10 6 rfl (by kernel_rfl) (by repeat (first | exact retQ_p | apply seqQ_p | apply blkQ_p | apply rndQ_p | apply cutQ_p)) trivial ?_)
      (apply Qst_pu; (focus (first | (apply P_idx1; (focus rfl); (focus rfl); (focus rfl); (focus rfl); (focus rfl); (focus omega)) | (apply P_idxu; (focus rfl); (focus rfl); (focus rfl); (focus rfl); (focus rfl); (focus omega); (focus omega)))); (focus rfl); (repeat' (first | (apply Qst_nil) | (apply rnQ_k; (focus (exact trivial))))))
      refine S_any [7, 11] 5 rfl (by kernel_rfl) (all2 ?_ ?_)
      all_goals (refine Gt ?_)
      all_goals (refine ⟨trivial, ?_⟩)
      rotate_left
      (refine S_any [7] 4 rfl (by kernel_rfl) (all1 ?_))
      rotate_left
      (refine S_any [11] 4 rfl (by kernel_rfl) (all1 ?_))
      all_goals (refine Gt ?_)
      all_goals (refine ⟨trivial, ?_⟩)
      all_goals (refine S_take 12 3 rfl (by kernel_rfl) (by repeat (first | exact retQ_p | apply seqQ_p | apply blkQ_p | apply rndQ_p | apply cutQ_p)) trivial ?_)
      all_goals (apply Qst_pu; (focus (first | (apply P_idx1; (focus rfl); (focus rfl); (focus rfl); (focus rfl); (focus rfl); (focus omega)) | (apply P_idxu; (focus rfl); (focus rfl); (focus rfl); (focus rfl); (focus rfl); (focus omega); (focus omega)))); (focus rfl); (repeat' (first | (apply Qst_nil) | (apply rnQ_k; (focus (exact trivial))))))
      all_goals (refine S_any [13] 2 rfl (by kernel_rfl) (all1 ?_))
      all_goals (apply Lst_put (i := i2) (hb := hAd); (focus rfl); (focus rfl); (focus rfl); (focus rfl); (focus omega); (focus (first | (rw [List.length_append]; omega) | (rw [List.length_set, List.length_append]; omega))))
      all_goals (refine Gt ?_)
      all_goals (refine ⟨trivial, ?_⟩)
      all_goals (refine S_take 14 1 rfl (by kernel_rfl) (by repeat (first | exact retQ_p | apply seqQ_p | apply blkQ_p | apply rndQ_p | apply cutQ_p)) trivial ?_)
      all_goals (apply Qst_pu; (focus (first | (apply P_idx1; (focus rfl); (focus rfl); (focus rfl); (focus rfl); (focus rfl); (focus omega)) | (apply P_idxu; (focus rfl); (focus rfl); (focus rfl); (focus rfl); (focus rfl); (focus omega); (focus omega)))); (focus rfl); (repeat' (first | (apply Qst_nil) | (apply rnQ_k; (focus (exact trivial))))))
      all_goals (refine S_any [15] 0 rfl (by kernel_rfl) (all1 ?_))
      all_goals (apply Lst_put (i := j2) (hb := Blk.put_same hAd.lt _ _); (focus rfl); (focus rfl); (focus rfl); (focus rfl); (focus omega); (focus (first | (rw [List.length_append]; omega) | (rw [List.length_set, List.length_append]; omega))))
      all_goals (refine Gt ?_)
      all_goals (refine ⟨trivial, ?_⟩)
      all_goals (refine S_done (by kernel_rfl) ?_)
      all_goals have hA2 : Arr ((A.drew.putObj b (.cells ((us k ++ post).set i2 (.int .u64 k[j2]!)).toArray 27)).putObj b (.cells (((us k ++ post).set i2 (.int .u64 k[j2]!)).set j2 (.int .u64 k[i2]!)).toArray 27)) b (Go.Sort.swp k i2 j2) post := by unfold Arr; rw [us_swp k post i2 j2 (by omega) (by omega)]; exact Blk.put_same (by rw [World.putObj_size]; exact hAd.lt) _ _
      all_goals have hc2 : Chg [b] w ((A.drew.putObj b (.cells ((us k ++ post).set i2 (.int .u64 k[j2]!)).toArray 27)).putObj b (.cells (((us k ++ post).set i2 (.int .u64 k[j2]!)).set j2 (.int .u64 k[i2]!)).toArray 27)) := (hc.drew.put (by simp) _).put (by simp) _
      all_goals have hks2 := swp_size k i2 j2
      all_goals generalize (A.drew.putObj b (.cells ((us k ++ post).set i2 (.int .u64 k[j2]!)).toArray 27)).putObj b (.cells (((us k ++ post).set i2 (.int .u64 k[j2]!)).set j2 (.int .u64 k[i2]!)).toArray 27) = A2 at *
      all_goals (first | apply blkQ_n | skip)
      all_goals exact cutQ_n () ⟨hA2, hc2⟩ ⟨rfl, rfl, rfl, rfl, trivial⟩
    clear hA hc
    rintro Jc ⟨⟩ A ⟨hA, hc⟩
    generalize swp k i2 j2 = k1 at *
    (refine Ga ?_)
    refine W_cutB (α := Nat × Array Int) (fun x => [(0, .slice (some ⟨b, 0, none⟩) d.size c), (1, .int .i64 (a : Int)), (11, .int .i64 (x.1 : Int))]) (fun x A => x = R ∧ x.1 < d.size ∧ x.2.size = d.size ∧ Arr A b x.2 post ∧ Chg [b] w A) ?_ ?_
    · refine W_loop (α := Nat × Nat × Array Int) (fun x => [(0, .slice (some ⟨b, 0, none⟩) d.size c), (1, .int .i64 (a : Int)), (10, .int .i64 (x.1 : Int)), (11, .int .i64 (x.2.1 : Int))])
        (fun x A => a + 1 ≤ x.1 ∧ x.2.1 ≤ a + L - 1 ∧ Go.Sort.partLoop ltInt a x.1 x.2.1 x.2.2 = R ∧ x.2.2.size = d.size ∧ Arr A b x.2.2 post ∧ Chg [b] w A) (fun x _ => x.2.1 + 1 - x.1) (i2 + 1, j2 - 1, k1)
        ⟨by dsimp only; omega, by dsimp only; omega, hR, hks2.trans hks, hA, hc⟩ ⟨rfl, rfl, by show Value.int .i64 ((i2 : Int) + 1) = Value.int .i64 ((i2 + 1 : Nat) : Int); rw [Int.natCast_add]; rfl, by show Value.int .i64 ((j2 : Int) - 1) = Value.int .i64 ((j2 - 1 : Nat) : Int); congr 1; omega, trivial⟩ ?_
      clear hR hA hc hks2 hks hij hj2l hi2g
      rintro Jo ⟨i, j, k⟩ A ⟨hi, hj, hRo, hks, hA, hc⟩
      dsimp only at hi hj hRo hks hA ⊢
      (refine Ga ?_)
      refine W_cutB (α := Nat) (fun x => [(0, .slice (some ⟨b, 0, none⟩) d.size c), (1, .int .i64 (a : Int)), (10, .int .i64 (x : Int)), (11, .int .i64 ((j : Nat) : Int))]) (fun x A => x = Go.Sort.scanUp (fun x => ltInt x k[a]!) k j i ∧ Arr A b k post ∧ Chg [b] w A) ?_ ?_
      · generalize hR : Go.Sort.scanUp (fun x => ltInt x k[a]!) k j i = R
        refine W_loop (α := Nat) (fun x => [(0, .slice (some ⟨b, 0, none⟩) d.size c), (1, .int .i64 (a : Int)), (10, .int .i64 (x : Int)), (11, .int .i64 ((j : Nat) : Int))])
          (fun x A => Go.Sort.scanUp (fun x => ltInt x k[a]!) k j x = R ∧ Arr A b k post ∧ Chg [b] w A) (fun x _ => j + 1 - x) (i)
          ⟨hR, hA, hc⟩ ⟨rfl, rfl, rfl, rfl, trivial⟩ ?_
        clear hR hA hc
        rintro Jr x A ⟨hR, hA, hc⟩
        rw [Go.Sort.scanUp] at hR
        by_cases hx : x ≤ j
        · have hAd : Arr A.drew b k post := Blk.drew hA
          have c1 := hAd.cell x (by omega) (0 + x) (by omega)
          have c2 := hAd.cell a (by omega) (0 + a) (by omega)
          have hless := fun A => c_Less k[x]! k[a]! A
          (refine Ga ?_)
          rcases hl : ltInt k[x]! k[a]! with _ | _
          · rw [hl] at hless
            refine W_draws (fun A' => A' = World.drew A) rfl (by kernel_rfl) rfl ?_
            (refine Qa ?_)
            apply Qst_call (.bool false)
            focus rfl
            focus rfl
            · rintro _ rfl
              exact (hless _).mono fun v w' h => ⟨h.1, h.2.symm⟩
            (refine Qa ?_)
            rintro A' rfl
            clear c1 c2 hless
            have hcd := hc.drew
            clear hA hc
            have hA := hAd
            have hc := hcd
            clear hAd hcd
            generalize A.drew = A at *
            (refine Ga ?_)
            exact cutQ_n x ⟨by rw [if_neg (by simp [hl])] at hR; exact hR, hA, hc⟩ ⟨rfl, rfl, rfl, rfl, trivial⟩
          · rw [hl] at hless
            refine W_draws (fun A' => A' = World.drew A) rfl (by kernel_rfl) rfl ?_
            (refine Qa ?_)
            apply Qst_call (.bool true)
            focus rfl
            focus rfl
            · rintro _ rfl
              exact (hless _).mono fun v w' h => ⟨h.1, h.2.symm⟩
            (refine Qa ?_)
            rintro A' rfl
            clear c1 c2 hless
            have hcd := hc.drew
            clear hA hc
            have hA := hAd
            have hc := hcd
            clear hAd hcd
            generalize A.drew = A at *
            (refine Ga ?_)
            refine rndQ_n (α := Nat) (x + 1) ⟨by rw [if_pos (by simp [hl, hx])] at hR; exact hR, hA, hc⟩ ⟨rfl, rfl, by show Value.int .i64 ((x : Int) + 1) = Value.int .i64 ((x + 1 : Nat) : Int); rw [Int.natCast_add]; rfl, rfl, trivial⟩ (by omega)
        · have hR2 : x = R := by rw [if_neg (by simp [hx])] at hR; exact hR
          (refine Ga ?_)
          have hAd := Blk.drew hA
          refine W_draws (fun A' => A' = World.drew A) rfl (by kernel_rfl) rfl ?_
          (refine Qa ?_)
          rintro A' rfl
          have hcd := hc.drew
          clear hA hc
          have hA := hAd
          have hc := hcd
          clear hAd hcd
          generalize A.drew = A at *
          (refine Ga ?_)
          exact cutQ_n x ⟨hR2, hA, hc⟩ ⟨rfl, rfl, rfl, rfl, trivial⟩
      clear hA hc
      rintro Jc i2 A ⟨hi2, hA, hc⟩
      have hi2g := up_ge (fun x => ltInt x k[a]!) k j i
      rw [← hi2] at hi2g
      (refine Ga ?_)
      refine W_cutB (α := Nat) (fun x => [(0, .slice (some ⟨b, 0, none⟩) d.size c), (1, .int .i64 (a : Int)), (10, .int .i64 ((i2 : Nat) : Int)), (11, .int .i64 (x : Int))]) (fun x A => x = Go.Sort.scanDown (fun x => !ltInt x k[a]!) k i2 j ∧ Arr A b k post ∧ Chg [b] w A) ?_ ?_
      · generalize hR : Go.Sort.scanDown (fun x => !ltInt x k[a]!) k i2 j = R
        refine W_loop (α := Nat) (fun x => [(0, .slice (some ⟨b, 0, none⟩) d.size c), (1, .int .i64 (a : Int)), (10, .int .i64 ((i2 : Nat) : Int)), (11, .int .i64 (x : Int))])
          (fun x A => x ≤ j ∧ Go.Sort.scanDown (fun x => !ltInt x k[a]!) k i2 x = R ∧ Arr A b k post ∧ Chg [b] w A) (fun x _ => x) (j)
          ⟨Nat.le_refl _, hR, hA, hc⟩ ⟨rfl, rfl, rfl, rfl, trivial⟩ ?_
        clear hR hA hc
        rintro Jr x A ⟨hx3, hR, hA, hc⟩
        by_cases hx : i2 ≤ x
        · obtain ⟨q, rfl⟩ : ∃ q, x = q + 1 := ⟨x - 1, by omega⟩
          rw [Go.Sort.scanDown] at hR
          have hAd : Arr A.drew b k post := Blk.drew hA
          have c1 := hAd.cell (q + 1) (by omega) (0 + (q + 1)) (by omega)
          have c2 := hAd.cell a (by omega) (0 + a) (by omega)
          have hless := fun A => c_Less k[q + 1]! k[a]! A
          (refine Ga ?_)
          rcases hl : ltInt k[q + 1]! k[a]! with _ | _
          · rw [hl] at hless
            refine W_draws (fun A' => A' = World.drew A) rfl (by kernel_rfl) rfl ?_
            (refine Qa ?_)
            apply Qst_call (.bool false)
            focus rfl
            focus rfl
            · rintro _ rfl
              exact (hless _).mono fun v w' h => ⟨h.1, h.2.symm⟩
            (refine Qa ?_)
            rintro A' rfl
            clear c1 c2 hless
            have hcd := hc.drew
            clear hA hc
            have hA := hAd
            have hc := hcd
            clear hAd hcd
            generalize A.drew = A at *
            (refine Ga ?_)
            refine rndQ_n (α := Nat) q ⟨by omega, by rw [if_pos (by simp [hl]; omega)] at hR; exact hR, hA, hc⟩ ⟨rfl, rfl, rfl, by show Value.int .i64 (((q + 1 : Nat) : Int) - 1) = Value.int .i64 (q : Int); congr 1; omega, trivial⟩ (Nat.lt_succ_self _)
          · rw [hl] at hless
            refine W_draws (fun A' => A' = World.drew A) rfl (by kernel_rfl) rfl ?_
            (refine Qa ?_)
            apply Qst_call (.bool true)
            focus rfl
            focus rfl
            · rintro _ rfl
              exact (hless _).mono fun v w' h => ⟨h.1, h.2.symm⟩
            (refine Qa ?_)
            rintro A' rfl
            clear c1 c2 hless
            have hcd := hc.drew
            clear hA hc
            have hA := hAd
            have hc := hcd
            clear hAd hcd
            generalize A.drew = A at *
            (refine Ga ?_)
            exact cutQ_n (q + 1) ⟨by rw [if_neg (by simp [hl])] at hR; exact hR, hA, hc⟩ ⟨rfl, rfl, rfl, rfl, trivial⟩
        · have hR2 : x = R := by
            rcases x with _ | q
            · exact hR
            · rw [Go.Sort.scanDown, if_neg (by simp; omega)] at hR
              exact hR
          (refine Ga ?_)
          have hAd := Blk.drew hA
          refine W_draws (fun A' => A' = World.drew A) rfl (by kernel_rfl) rfl ?_
          (refine Qa ?_)
          rintro A' rfl
          have hcd := hc.drew
          clear hA hc
          have hA := hAd
          have hc := hcd
          clear hAd hcd
          generalize A.drew = A at *
          (refine Ga ?_)
          exact cutQ_n x ⟨hR2, hA, hc⟩ ⟨rfl, rfl, rfl, rfl, trivial⟩
      clear hA hc
      rintro Jc j2 A ⟨hj2, hA, hc⟩
      have hj2l := down_le (fun x => !ltInt x k[a]!) k i2 j
      rw [← hj2] at hj2l
      rw [Go.Sort.partLoop] at hRo
      have hR1 : (if i2 > j2 then (j2, k) else if h : (j2 - 1) + 1 - (i2 + 1) < j + 1 - i then Go.Sort.partLoop ltInt a (i2 + 1) (j2 - 1) (swp k i2 j2) else (j2, k)) = R := by
        rw [← hRo, hj2, hi2]
      clear hRo hi2 hj2
      by_cases hij : i2 > j2
      · rw [if_pos hij] at hR1
        (refine Ga ?_)
        exact cutQ_n (j2, k) ⟨hR1, by dsimp only; omega, hks, hA, hc⟩ ⟨rfl, rfl, rfl, trivial⟩
      · rw [if_neg hij, dif_pos (by omega)] at hR1
        have hks2 := swp_size k i2 j2
        (refine Ga ?_)
        first | refine W_cutS (α := Unit) (fun _ => [(0, .slice (some ⟨b, 0, none⟩) d.size c), (1, .int .i64 (a : Int)), (10, .int .i64 (i2 : Int)), (11, .int .i64 (j2 : Int))]) (fun _ A' => Arr A' b (Go.Sort.swp k i2 j2) post ∧ Chg [b] w A') ?_ ?_ | refine W_cutB (α := Unit) (fun _ => [(0, .slice (some ⟨b, 0, none⟩) d.size c), (1, .int .i64 (a : Int)), (10, .int .i64 (i2 : Int)), (11, .int .i64 (j2 : Int))]) (fun _ A' => Arr A' b (Go.Sort.swp k i2 j2) post ∧ Chg [b] w A') ?_ ?_
        · skip
          have hAd : Arr A.drew b k post := Blk.drew hA
          have hkl := us_len k
          have cI := hAd.cell i2 (by omega) (0 + i2) (by omega)
          have cJ := hAd.cell j2 (by omega) (0 + j2) (by omega)
          refine W_drawS 16 (fun _ => True) rfl rfl ?_
          (refine S_take 0 15 rfl (by kernel_rfl) (by repeat (first | exact retQ_p | apply seqQ_p | apply blkQ_p | apply rndQ_p | apply cutQ_p)) trivial ?_)
          (refine Gt ?_)
          (refine S_take 1 14 rfl (by kernel_rfl) (by repeat (first | exact retQ_p | apply seqQ_p | apply blkQ_p | apply rndQ_p | apply cutQ_p)) trivial ?_)
          (refine Gt ?_)
          (refine S_take 2 13 rfl (by kernel_rfl) (by repeat (first | exact retQ_p | apply seqQ_p | apply blkQ_p | apply rndQ_p | apply cutQ_p)) trivial ?_)
          (refine Gt ?_)
          (refine S_take 3 12 rfl (by kernel_rfl) (by repeat (first | exact retQ_p | apply seqQ_p | apply blkQ_p | apply rndQ_p | apply cutQ_p)) trivial ?_)
          (refine Gt ?_)
          (refine S_take 4 11 rfl (by kernel_rfl) (by repeat (first | exact retQ_p | apply seqQ_p | apply blkQ_p | apply rndQ_p | apply cutQ_p)) trivial ?_)
          (refine Gt ?_)
          (refine S_take 5 10 rfl (by kernel_rfl) (by repeat (first | exact retQ_p | apply seqQ_p | apply blkQ_p | apply rndQ_p | apply cutQ_p)) trivial ?_)
          (refine Gt ?_)
          (refine S_take 6 9 rfl (by kernel_rfl) (by repeat (first | exact retQ_p | apply seqQ_p | apply blkQ_p | apply rndQ_p | apply cutQ_p)) trivial ?_)
          (apply Qst_pu; (focus (first | (apply P_idx1; (focus rfl); (focus rfl); (focus rfl); (focus rfl); (focus rfl); (focus omega)) | (apply P_idxu; (focus rfl); (focus rfl); (focus rfl); (focus rfl); (focus rfl); (focus omega); (focus omega)))); (focus rfl); (repeat' (first | (apply Qst_nil) | (apply rnQ_k; (focus (exact trivial))))))
          (refine S_take 8 8 rfl (by kernel_rfl) (by repeat (first | exact retQ_p | apply seqQ_p | apply blkQ_p | apply rndQ_p | apply cutQ_p)) trivial ?_)
          (refine Gt ?_)
          (refine S_take 9 7 rfl (by kernel_rfl) (by repeat (first | exact retQ_p | apply seqQ_p | apply blkQ_p | apply rndQ_p | apply cutQ_p)) trivial ?_)
          (refine Gt ?_)
          (refine S_take 10 6 rfl (by kernel_rfl) (by repeat (first | exact retQ_p | apply seqQ_p | apply blkQ_p | apply rndQ_p | apply cutQ_p)) trivial ?_)
          (apply Qst_pu; (focus (first | (apply P_idx1; (focus rfl); (focus rfl); (focus rfl); (focus rfl); (focus rfl); (focus omega)) | (apply P_idxu; (focus rfl); (focus rfl); (focus rfl); (focus rfl); (focus rfl); (focus omega); (focus omega)))); (focus rfl); (repeat' (first | (apply Qst_nil) | (apply rnQ_k; (focus (exact trivial))))))
          refine S_any [7, 11] 5 rfl (by kernel_rfl) (all2 ?_ ?_)
          all_goals (refine Gt ?_)
          all_goals (refine ⟨trivial, ?_⟩)
          rotate_left
          (refine S_any [7] 4 rfl (by kernel_rfl) (all1 ?_))
          rotate_left
          (refine S_any [11] 4 rfl (by kernel_rfl) (all1 ?_))
          all_goals (refine Gt ?_)
          all_goals (refine ⟨trivial, ?_⟩)
          all_goals (refine S_take 12 3 rfl (by kernel_rfl) (by repeat (first | exact retQ_p | apply seqQ_p | apply blkQ_p | apply rndQ_p | apply cutQ_p)) trivial ?_)
          all_goals (apply Qst_pu; (focus (first | (apply P_idx1; (focus rfl); (focus rfl); (focus rfl); (focus rfl); (focus rfl); (focus omega)) | (apply P_idxu; (focus rfl); (focus rfl); (focus rfl); (focus rfl); (focus rfl); (focus omega); (focus omega)))); (focus rfl); (repeat' (first | (apply Qst_nil) | (apply rnQ_k; (focus (exact trivial))))))
          all_goals (refine S_any [13] 2 rfl (by kernel_rfl) (all1 ?_))
          all_goals (apply Lst_put (i := i2) (hb := hAd); (focus rfl); (focus rfl); (focus rfl); (focus rfl); (focus omega); (focus (first | (rw [List.length_append]; omega) | (rw [List.length_set, List.length_append]; omega))))
          all_goals (refine Gt ?_)
          all_goals (refine ⟨trivial, ?_⟩)
          all_goals (refine S_take 14 1 rfl (by kernel_rfl) (by repeat (first | exact retQ_p | apply seqQ_p | apply blkQ_p | apply rndQ_p | apply cutQ_p)) trivial ?_)
          all_goals (apply Qst_pu; (focus (first | (apply P_idx1; (focus rfl); (focus rfl); (focus rfl); (focus rfl); (focus rfl); (focus omega)) | (apply P_idxu; (focus rfl); (focus rfl); (focus rfl); (focus rfl); (focus rfl); (focus omega); (focus omega)))); (focus rfl); (repeat' (first | (apply Qst_nil) | (apply rnQ_k; (focus (exact trivial))))))
          all_goals (refine S_any [15] 0 rfl (by kernel_rfl) (all1 ?_))
          all_goals (apply Lst_put (i := j2) (hb := Blk.put_same hAd.lt _ _); (focus rfl); (focus rfl); (focus rfl); (focus rfl); (focus omega); (focus (first | (rw [List.length_append]; omega) | (rw [List.length_set, List.length_append]; omega))))
          all_goals (refine Gt ?_)
          all_goals (refine ⟨trivial, ?_⟩)
          all_goals (refine S_done (by kernel_rfl) ?_)
          all_goals have hA2 : Arr ((A.drew.putObj b (.cells ((us k ++ post).set i2 (.int .u64 k[j2]!)).toArray 27)).putObj b (.cells (((us k ++ post).set i2 (.int .u64 k[j2]!)).set j2 (.int .u64 k[i2]!)).toArray 27)) b (Go.Sort.swp k i2 j2) post := by unfold Arr; rw [us_swp k post i2 j2 (by omega) (by omega)]; exact Blk.put_same (by rw [World.putObj_size]; exact hAd.lt) _ _
          all_goals have hc2 : Chg [b] w ((A.drew.putObj b (.cells ((us k ++ post).set i2 (.int .u64 k[j2]!)).toArray 27)).putObj b (.cells (((us k ++ post).set i2 (.int .u64 k[j2]!)).set j2 (.int .u64 k[i2]!)).toArray 27)) := (hc.drew.put (by simp) _).put (by simp) _
          all_goals have hks2 := swp_size k i2 j2
          all_goals generalize (A.drew.putObj b (.cells ((us k ++ post).set i2 (.int .u64 k[j2]!)).toArray 27)).putObj b (.cells (((us k ++ post).set i2 (.int .u64 k[j2]!)).set j2 (.int .u64 k[i2]!)).toArray 27) = A2 at *
          all_goals (first | apply blkQ_n | skip)
          all_goals exact cutQ_n () ⟨hA2, hc2⟩ ⟨rfl, rfl, rfl, rfl, trivial⟩
        clear hA hc
        rintro Jc ⟨⟩ A ⟨hA, hc⟩
        (refine Ga ?_)
        refine rndQ_n (α := Nat × Nat × Array Int) (i2 + 1, j2 - 1, swp k i2 j2) ⟨by dsimp only; omega, by dsimp only; omega, hR1, hks2.trans hks, hA, hc⟩ ⟨rfl, rfl, by show Value.int .i64 ((i2 : Int) + 1) = Value.int .i64 ((i2 + 1 : Nat) : Int); rw [Int.natCast_add]; rfl, by show Value.int .i64 ((j2 : Int) - 1) = Value.int .i64 ((j2 - 1 : Nat) : Int); congr 1; omega, trivial⟩ (by dsimp only; omega)
    · clear hR hA hc
      rintro Jc ⟨j3, k3⟩ A ⟨hx, hj3, hks3, hA, hc⟩
      subst hx
      dsimp only at hj3 hks3 hA ⊢
      (refine Ga ?_)
      first | refine W_cutS (α := Unit) (fun _ => [(11, .int .i64 (j3 : Int))]) (fun _ A' => Arr A' b (Go.Sort.swp k3 j3 a) post ∧ Chg [b] w A') ?_ ?_ | refine W_cutB (α := Unit) (fun _ => [(11, .int .i64 (j3 : Int))]) (fun _ A' => Arr A' b (Go.Sort.swp k3 j3 a) post ∧ Chg [b] w A') ?_ ?_
      · skip
        have hAd : Arr A.drew b k3 post := Blk.drew hA
        have hkl := us_len k3
        have cI := hAd.cell j3 (by omega) (0 + j3) (by omega)
        have cJ := hAd.cell a (by omega) (0 + a) (by omega)
        refine W_drawS 16 (fun _ => True) rfl rfl ?_
        (refine S_take 0 15 rfl (by kernel_rfl) (by repeat (first | exact retQ_p | apply seqQ_p | apply blkQ_p | apply rndQ_p | apply cutQ_p)) trivial ?_)
        (refine Gt ?_)
        (refine S_take 1 14 rfl (by kernel_rfl) (by repeat (first | exact retQ_p | apply seqQ_p | apply blkQ_p | apply rndQ_p | apply cutQ_p)) trivial ?_)
        (refine Gt ?_)
        (refine S_take 2 13 rfl (by kernel_rfl) (by repeat (first | exact retQ_p | apply seqQ_p | apply blkQ_p | apply rndQ_p | apply cutQ_p)) trivial ?_)
        (refine Gt ?_)
        (refine S_take 3 12 rfl (by kernel_rfl) (by repeat (first | exact retQ_p | apply seqQ_p | apply blkQ_p | apply rndQ_p | apply cutQ_p)) trivial ?_)
        (refine Gt ?_)
        (refine S_take 4 11 rfl (by kernel_rfl) (by repeat (first | exact retQ_p | apply seqQ_p | apply blkQ_p | apply rndQ_p | apply cutQ_p)) trivial ?_)
        (refine Gt ?_)
        (refine S_take 5 10 rfl (by kernel_rfl) (by repeat (first | exact retQ_p | apply seqQ_p | apply blkQ_p | apply rndQ_p | apply cutQ_p)) trivial ?_)
        (refine Gt ?_)
        (refine S_take 6 9 rfl (by kernel_rfl) (by repeat (first | exact retQ_p | apply seqQ_p | apply blkQ_p | apply rndQ_p | apply cutQ_p)) trivial ?_)
        (apply Qst_pu; (focus (first | (apply P_idx1; (focus rfl); (focus rfl); (focus rfl); (focus rfl); (focus rfl); (focus omega)) | (apply P_idxu; (focus rfl); (focus rfl); (focus rfl); (focus rfl); (focus rfl); (focus omega); (focus omega)))); (focus rfl); (repeat' (first | (apply Qst_nil) | (apply rnQ_k; (focus (exact trivial))))))
        (refine S_take 8 8 rfl (by kernel_rfl) (by repeat (first | exact retQ_p | apply seqQ_p | apply blkQ_p | apply rndQ_p | apply cutQ_p)) trivial ?_)
        (refine Gt ?_)
        (refine S_take 9 7 rfl (by kernel_rfl) (by repeat (first | exact retQ_p | apply seqQ_p | apply blkQ_p | apply rndQ_p | apply cutQ_p)) trivial ?_)
        (refine Gt ?_)
        (refine S_take 10 6 rfl (by kernel_rfl) (by repeat (first | exact retQ_p | apply seqQ_p | apply blkQ_p | apply rndQ_p | apply cutQ_p)) trivial ?_)
        (apply Qst_pu; (focus (first | (apply P_idx1; (focus rfl); (focus rfl); (focus rfl); (focus rfl); (focus rfl); (focus omega)) | (apply P_idxu; (focus rfl); (focus rfl); (focus rfl); (focus rfl); (focus rfl); (focus omega); (focus omega)))); (focus rfl); (repeat' (first | (apply Qst_nil) | (apply rnQ_k; (focus (exact trivial))))))
        refine S_any [7, 11] 5 rfl (by kernel_rfl) (all2 ?_ ?_)
        all_goals (refine Gt ?_)
        all_goals (refine ⟨trivial, ?_⟩)
        rotate_left
        (refine S_any [7] 4 rfl (by kernel_rfl) (all1 ?_))
        rotate_left
        (refine S_any [11] 4 rfl (by kernel_rfl) (all1 ?_))
        all_goals (refine Gt ?_)
        all_goals (refine ⟨trivial, ?_⟩)
        all_goals (refine S_take 12 3 rfl (by kernel_rfl) (by repeat (first | exact retQ_p | apply seqQ_p | apply blkQ_p | apply rndQ_p | apply cutQ_p)) trivial ?_)
        all_goals (apply Qst_pu; (focus (first | (apply P_idx1; (focus rfl); (focus rfl); (focus rfl); (focus rfl); (focus rfl); (focus omega)) | (apply P_idxu; (focus rfl); (focus rfl); (focus rfl); (focus rfl); (focus rfl); (focus omega); (focus omega)))); (focus rfl); (repeat' (first | (apply Qst_nil) | (apply rnQ_k; (focus (exact trivial))))))
        all_goals (refine S_any [13] 2 rfl (by kernel_rfl) (all1 ?_))
        all_goals (apply Lst_put (i := j3) (hb := hAd); (focus rfl); (focus rfl); (focus rfl); (focus rfl); (focus omega); (focus (first | (rw [List.length_append]; omega) | (rw [List.length_set, List.length_append]; omega))))
        all_goals (refine Gt ?_)
        all_goals (refine ⟨trivial, ?_⟩)
        all_goals (refine S_take 14 1 rfl (by kernel_rfl) (by repeat (first | exact retQ_p | apply seqQ_p | apply blkQ_p | apply rndQ_p | apply cutQ_p)) trivial ?_)
        all_goals (apply Qst_pu; (focus (first | (apply P_idx1; (focus rfl); (focus rfl); (focus rfl); (focus rfl); (focus rfl); (focus omega)) | (apply P_idxu; (focus rfl); (focus rfl); (focus rfl); (focus rfl); (focus rfl); (focus omega); (focus omega)))); (focus rfl); (repeat' (first | (apply Qst_nil) | (apply rnQ_k; (focus (exact trivial))))))
        all_goals (refine S_any [15] 0 rfl (by kernel_rfl) (all1 ?_))
        all_goals (apply Lst_put (i := a) (hb := Blk.put_same hAd.lt _ _); (focus rfl); (focus rfl); (focus rfl); (focus rfl); (focus omega); (focus (first | (rw [List.length_append]; omega) | (rw [List.length_set, List.length_append]; omega))))
        all_goals (refine Gt ?_)
        all_goals (refine ⟨trivial, ?_⟩)
        all_goals (refine S_done (by kernel_rfl) ?_)
        all_goals have hA2 : Arr ((A.drew.putObj b (.cells ((us k3 ++ post).set j3 (.int .u64 k3[a]!)).toArray 27)).putObj b (.cells (((us k3 ++ post).set j3 (.int .u64 k3[a]!)).set a (.int .u64 k3[j3]!)).toArray 27)) b (Go.Sort.swp k3 j3 a) post := by unfold Arr; rw [us_swp k3 post j3 a (by omega) (by omega)]; exact Blk.put_same (by rw [World.putObj_size]; exact hAd.lt) _ _
        all_goals have hc2 : Chg [b] w ((A.drew.putObj b (.cells ((us k3 ++ post).set j3 (.int .u64 k3[a]!)).toArray 27)).putObj b (.cells (((us k3 ++ post).set j3 (.int .u64 k3[a]!)).set a (.int .u64 k3[j3]!)).toArray 27)) := (hc.drew.put (by simp) _).put (by simp) _
        all_goals have hks2 := swp_size k3 j3 a
        all_goals generalize (A.drew.putObj b (.cells ((us k3 ++ post).set j3 (.int .u64 k3[a]!)).toArray 27)).putObj b (.cells (((us k3 ++ post).set j3 (.int .u64 k3[a]!)).set a (.int .u64 k3[j3]!)).toArray 27) = A2 at *
        all_goals (first | apply blkQ_n | skip)
        all_goals exact cutQ_n () ⟨hA2, hc2⟩ ⟨rfl, trivial⟩
      clear hA hc
      rintro Jc ⟨⟩ A ⟨hA, hc⟩
      (refine Ga ?_)
      (apply retQ2; (focus rfl); (focus rfl))
      exact ⟨rfl, hA, hc⟩
end So
namespace So
open Go Go.RowKit Sx
open Go.Sort (swp ltInt)
attribute [local irreducible] W Lst Qst Pu seqQ blkQ rndQ cutQ retQ Does Enters IntKind.wrap bits sb World.alloc World.putObj Blk
attribute [local irreducible] Rn Tk rnQ
attribute [local irreducible] RnS
set_option maxHeartbeats 4000000 in
theorem c_parteq (b a L p m c : Nat) (d : Array Int) (post : List Value) (hm : m = d.size) (hh : a + L ≤ d.size) (hL : 1 ≤ L) (hp2 : p < a + L) (hsz : d.size < 1152921504606846976) (w : World) (h : Arr w b d post) :
    Does Try.prog 84 #[.slice (some ⟨b, 0, none⟩) m c, .int .i64 (a : Int), .int .i64 ((a + L : Nat) : Int), .int .i64 (p : Int)] w fun v w' => v = .int .i64 ((Go.Sort.partitionEqual ltInt d a (a + L) p).1 : Int) ∧ Arr w' b (Go.Sort.partitionEqual ltInt d a (a + L) p).2 post ∧ Chg [b] w w' := by
  refine Does_of (args := [.slice (some ⟨b, 0, none⟩) m c, .int .i64 (a : Int), .int .i64 ((a + L : Nat) : Int), .int .i64 (p : Int)]) Try.func84 (by kernel_rfl) rfl rfl rfl rfl rfl ?_
  generalize hR : Go.Sort.partitionEqual ltInt d a (a + L) p = R
  unfold Go.Sort.partitionEqual at hR
  subst hm
  refine W_at (h := h) ?_
  clear h
  intro A hA hc
  (refine Ga ?_)
  have hks := swp_size d a p
  first | refine W_cutS (α := Unit) (fun _ => [(0, .slice (some ⟨b, 0, none⟩) d.size c), (1, .int .i64 (a : Int)), (2, .int .i64 ((a + L : Nat) : Int))]) (fun _ A' => Arr A' b (Go.Sort.swp d a p) post ∧ Chg [b] w A') ?_ ?_ | refine W_cutB (α := Unit) (fun _ => [(0, .slice (some ⟨b, 0, none⟩) d.size c), (1, .int .i64 (a : Int)), (2, .int .i64 ((a + L : Nat) : Int))]) (fun _ A' => Arr A' b (Go.Sort.swp d a p) post ∧ Chg [b] w A') ?_ ?_
  · skip
    have hAd : Arr A.drew b d post := Blk.drew hA
    have hkl := us_len d
    have cI := hAd.cell a (by omega) (0 + a) (by omega)
    have cJ := hAd.cell p (by omega) (0 + p) (by omega)
    refine W_drawS 16 (fun _ => True) rfl rfl ?_
    (refine S_take 0 15 rfl (by kernel_rfl) (by repeat (first | exact retQ_p | apply seqQ_p | apply blkQ_p | apply rndQ_p | apply cutQ_p)) trivial ?_)
    (refine Gt ?_)
    (refine S_take 1 14 rfl (by kernel_rfl) (by repeat (first | exact retQ_p | apply seqQ_p | apply blkQ_p | apply rndQ_p | apply cutQ_p)) trivial ?_)
    (refine Gt ?_)
    (refine S_take 2 13 rfl (by kernel_rfl) (by repeat (first | exact retQ_p | apply seqQ_p | apply blkQ_p | apply rndQ_p | apply cutQ_p)) trivial ?_)
    (refine Gt ?_)
    (refine S_take 3 12 rfl (by kernel_rfl) (by repeat (first | exact retQ_p | apply seqQ_p | apply blkQ_p | apply rndQ_p | apply cutQ_p)) trivial ?_)
    (refine Gt ?_)
    (refine S_take 4 11 rfl (by kernel_rfl) (by repeat (first | exact retQ_p | apply seqQ_p | apply blkQ_p | apply rndQ_p | apply cutQ_p)) trivial ?_)
    (refine Gt ?_)
    (refine S_take 5 10 rfl (by kernel_rfl) (by repeat (first | exact retQ_p | apply seqQ_p | apply blkQ_p | apply rndQ_p | apply cutQ_p)) trivial ?_)
    (refine Gt ?_)
    (refine S_take 6 9 rfl (by kernel_rfl) (by repeat (first | exact retQ_p | apply seqQ_p | apply blkQ_p | apply rndQ_p | apply cutQ_p)) trivial ?_)
    (apply Qst_pu; (focus (first | (apply P_idx1; (focus rfl); (focus rfl); (focus rfl); (focus rfl); (focus rfl); (focus omega)) | (apply P_idxu; (focus rfl); (focus rfl); (focus rfl); (focus rfl); (focus rfl); (focus omega); (focus omega)))); (focus rfl); (repeat' (first | (apply Qst_nil) | (apply rnQ_k; (focus (exact trivial))))))
    (refine S_take 8 8 rfl (by kernel_rfl) (by repeat (first | exact retQ_p | apply seqQ_p | apply blkQ_p | apply rndQ_p | apply cutQ_p)) trivial ?_)
    (refine Gt ?_)
    (refine S_take 9 7 rfl (by kernel_rfl) (by repeat (first | exact retQ_p | apply seqQ_p | apply blkQ_p | apply rndQ_p | apply cutQ_p)) trivial ?_)
    (refine Gt ?_)
    (refine S_take 10 6 rfl (by kernel_rfl) (by repeat (first | exact retQ_p | apply seqQ_p | apply blkQ_p | apply rndQ_p | apply cutQ_p)) trivial ?_)
    (apply Qst_pu; (focus (first | (apply P_idx1; (focus rfl); (focus rfl); (focus rfl); (focus rfl); (focus rfl); (focus omega)) | (apply P_idxu; (focus rfl); (focus rfl); (focus rfl); (focus rfl); (focus rfl); (focus omega); (focus omega)))); (focus rfl); (repeat' (first | (apply Qst_nil) | (apply rnQ_k; (focus (exact trivial))))))
    refine S_any [7, 11] 5 rfl (by kernel_rfl) (all2 ?_ ?_)
    all_goals (refine Gt ?_)
    all_goals (refine ⟨trivial, ?_⟩)
    rotate_left
    (refine S_any [7] 4 rfl (by kernel_rfl) (all1 ?_))
    rotate_left
    (refine S_any [11] 4 rfl (by kernel_rfl) (all1 ?_))
    all_goals (refine Gt ?_)
    all_goals (refine ⟨trivial, ?_⟩)
    all_goals (refine S_take 12 3 rfl (by kernel_rfl) (by repeat (first | exact retQ_p | apply seqQ_p | apply blkQ_p | apply rndQ_p | apply cutQ_p)) trivial ?_)
    all_goals (apply Qst_pu; (focus (first | (apply P_idx1; (focus rfl); (focus rfl); (focus rfl); (focus rfl); (focus rfl); (focus omega)) | (apply P_idxu; (focus rfl); (focus rfl); (focus rfl); (focus rfl); (focus rfl); (focus omega); (focus omega)))); (focus rfl); (repeat' (first | (apply Qst_nil) | (apply rnQ_k; (focus (exact trivial))))))
    all_goals (refine S_any [13] 2 rfl (by kernel_rfl) (all1 ?_))
    all_goals (apply Lst_put (i := a) (hb := hAd); (focus rfl); (focus rfl); (focus rfl); (focus rfl); (focus omega); (focus (first | (rw [List.length_append]; omega) | (rw [List.length_set, List.length_append]; omega))))
    all_goals (refine Gt ?_)
    all_goals (refine ⟨trivial, ?_⟩)
    all_goals (refine S_take 14 1 rfl (by kernel_rfl) (by repeat (first | exact retQ_p | apply seqQ_p | apply blkQ_p | apply rndQ_p | apply cutQ_p)) trivial ?_)
    all_goals (apply Qst_pu; (focus (first | (apply P_idx1; (focus rfl); (focus rfl); (focus rfl); (focus rfl); (focus rfl); (focus omega)) | (apply P_idxu; (focus rfl); (focus rfl); (focus rfl); (focus rfl); (focus rfl); (focus omega); (focus omega)))); (focus rfl); (repeat' (first | (apply Qst_nil) | (apply rnQ_k; (focus (exact trivial))))))
    all_goals (refine S_any [15] 0 rfl (by kernel_rfl) (all1 ?_))
    all_goals (apply Lst_put (i := p) (hb := Blk.put_same hAd.lt _ _); (focus rfl); (focus rfl); (focus rfl); (focus rfl); (focus omega); (focus (first | (rw [List.length_append]; omega) | (rw [List.length_set, List.length_append]; omega))))
    all_goals (refine Gt ?_)
    all_goals (refine ⟨trivial, ?_⟩)
    all_goals (refine S_done (by kernel_rfl) ?_)
    all_goals have hA2 : Arr ((A.drew.putObj b (.cells ((us d ++ post).set a (.int .u64 d[p]!)).toArray 27)).putObj b (.cells (((us d ++ post).set a (.int .u64 d[p]!)).set p (.int .u64 d[a]!)).toArray 27)) b (Go.Sort.swp d a p) post := by unfold Arr; rw [us_swp d post a p (by omega) (by omega)]; exact Blk.put_same (by rw [World.putObj_size]; exact hAd.lt) _ _
    all_goals have hc2 : Chg [b] w ((A.drew.putObj b (.cells ((us d ++ post).set a (.int .u64 d[p]!)).toArray 27)).putObj b (.cells (((us d ++ post).set a (.int .u64 d[p]!)).set p (.int .u64 d[a]!)).toArray 27)) := (hc.drew.put (by simp) _).put (by simp) _
    all_goals have hks2 := swp_size d a p
    all_goals generalize (A.drew.putObj b (.cells ((us d ++ post).set a (.int .u64 d[p]!)).toArray 27)).putObj b (.cells (((us d ++ post).set a (.int .u64 d[p]!)).set p (.int .u64 d[a]!)).toArray 27) = A2 at *
    all_goals (first | apply blkQ_n | skip)
    all_goals exact cutQ_n () ⟨hA2, hc2⟩ ⟨rfl, rfl, rfl, trivial⟩
  clear hA hc
  rintro Jc ⟨⟩ A ⟨hA, hc⟩
  generalize swp d a p = k1 at *
  (refine Ga ?_)
  refine W_cutB (α := Nat × Array Int) (fun x => [(9, .int .i64 (x.1 : Int))]) (fun x A => x = R ∧ Arr A b x.2 post ∧ Chg [b] w A) ?_ ?_
  · refine W_loop (α := Nat × Nat × Array Int) (fun x => [(0, .slice (some ⟨b, 0, none⟩) d.size c), (1, .int .i64 (a : Int)), (9, .int .i64 (x.1 : Int)), (10, .int .i64 (x.2.1 : Int))])
      (fun x A => a + 1 ≤ x.1 ∧ x.2.1 ≤ a + L - 1 ∧ Go.Sort.partEqLoop ltInt a x.1 x.2.1 x.2.2 = R ∧ x.2.2.size = d.size ∧ Arr A b x.2.2 post ∧ Chg [b] w A) (fun x _ => x.2.1 + 1 - x.1) (a + 1, a + L - 1, k1)
      ⟨by dsimp only; omega, by dsimp only; omega, hR, hks, hA, hc⟩ ⟨rfl, rfl, by show Value.int .i64 ((a : Int) + 1) = Value.int .i64 ((a + 1 : Nat) : Int); rw [Int.natCast_add]; rfl, by show Value.int .i64 (((a + L : Nat) : Int) - 1) = Value.int .i64 ((a + L - 1 : Nat) : Int); congr 1; omega, trivial⟩ ?_
    clear hR hA hc hks
    rintro Jo ⟨i, j, k⟩ A ⟨hi, hj, hRo, hks, hA, hc⟩
    dsimp only at hi hj hRo hks hA ⊢
    (refine Ga ?_)
    refine W_cutB (α := Nat) (fun x => [(0, .slice (some ⟨b, 0, none⟩) d.size c), (1, .int .i64 (a : Int)), (9, .int .i64 (x : Int)), (10, .int .i64 ((j : Nat) : Int))]) (fun x A => x = Go.Sort.scanUp (fun x => !ltInt k[a]! x) k j i ∧ Arr A b k post ∧ Chg [b] w A) ?_ ?_
    · generalize hR : Go.Sort.scanUp (fun x => !ltInt k[a]! x) k j i = R
      refine W_loop (α := Nat) (fun x => [(0, .slice (some ⟨b, 0, none⟩) d.size c), (1, .int .i64 (a : Int)), (9, .int .i64 (x : Int)), (10, .int .i64 ((j : Nat) : Int))])
        (fun x A => Go.Sort.scanUp (fun x => !ltInt k[a]! x) k j x = R ∧ Arr A b k post ∧ Chg [b] w A) (fun x _ => j + 1 - x) (i)
        ⟨hR, hA, hc⟩ ⟨rfl, rfl, rfl, rfl, trivial⟩ ?_
      clear hR hA hc
      rintro Jr x A ⟨hR, hA, hc⟩
      rw [Go.Sort.scanUp] at hR
      by_cases hx : x ≤ j
      · have hAd : Arr A.drew b k post := Blk.drew hA
        have c1 := hAd.cell x (by omega) (0 + x) (by omega)
        have c2 := hAd.cell a (by omega) (0 + a) (by omega)
        have hless := fun A => c_Less k[a]! k[x]! A
        (refine Ga ?_)
        rcases hl : ltInt k[a]! k[x]! with _ | _
        · rw [hl] at hless
          refine W_draws (fun A' => A' = World.drew A) rfl (by kernel_rfl) rfl ?_
          (refine Qa ?_)
          apply Qst_call (.bool false)
          focus rfl
          focus rfl
          · rintro _ rfl
            exact (hless _).mono fun v w' h => ⟨h.1, h.2.symm⟩
          (refine Qa ?_)
          rintro A' rfl
          clear c1 c2 hless
          have hcd := hc.drew
          clear hA hc
          have hA := hAd
          have hc := hcd
          clear hAd hcd
          generalize A.drew = A at *
          (refine Ga ?_)
          refine rndQ_n (α := Nat) (x + 1) ⟨by rw [if_pos (by simp [hl, hx])] at hR; exact hR, hA, hc⟩ ⟨rfl, rfl, by show Value.int .i64 ((x : Int) + 1) = Value.int .i64 ((x + 1 : Nat) : Int); rw [Int.natCast_add]; rfl, rfl, trivial⟩ (by omega)
        · rw [hl] at hless
          refine W_draws (fun A' => A' = World.drew A) rfl (by kernel_rfl) rfl ?_
          (refine Qa ?_)
          apply Qst_call (.bool true)
          focus rfl
          focus rfl
          · rintro _ rfl
            exact (hless _).mono fun v w' h => ⟨h.1, h.2.symm⟩
          (refine Qa ?_)
          rintro A' rfl
          clear c1 c2 hless
          have hcd := hc.drew
          clear hA hc
          have hA := hAd
          have hc := hcd
          clear hAd hcd
          generalize A.drew = A at *
          (refine Ga ?_)
          exact cutQ_n x ⟨by rw [if_neg (by simp [hl])] at hR; exact hR, hA, hc⟩ ⟨rfl, rfl, rfl, rfl, trivial⟩
      · have hR2 : x = R := by rw [if_neg (by simp [hx])] at hR; exact hR
        (refine Ga ?_)
        have hAd := Blk.drew hA
        refine W_draws (fun A' => A' = World.drew A) rfl (by kernel_rfl) rfl ?_
        (refine Qa ?_)
        rintro A' rfl
        have hcd := hc.drew
        clear hA hc
        have hA := hAd
        have hc := hcd
        clear hAd hcd
        generalize A.drew = A at *
        (refine Ga ?_)
        exact cutQ_n x ⟨hR2, hA, hc⟩ ⟨rfl, rfl, rfl, rfl, trivial⟩
    clear hA hc
    rintro Jc i2 A ⟨hi2, hA, hc⟩
    have hi2g := up_ge (fun x => !ltInt k[a]! x) k j i
    rw [← hi2] at hi2g
    (refine Ga ?_)
    refine W_cutB (α := Nat) (fun x => [(0, .slice (some ⟨b, 0, none⟩) d.size c), (1, .int .i64 (a : Int)), (9, .int .i64 ((i2 : Nat) : Int)), (10, .int .i64 (x : Int))]) (fun x A => x = Go.Sort.scanDown (fun x => ltInt k[a]! x) k i2 j ∧ Arr A b k post ∧ Chg [b] w A) ?_ ?_
    · generalize hR : Go.Sort.scanDown (fun x => ltInt k[a]! x) k i2 j = R
      refine W_loop (α := Nat) (fun x => [(0, .slice (some ⟨b, 0, none⟩) d.size c), (1, .int .i64 (a : Int)), (9, .int .i64 ((i2 : Nat) : Int)), (10, .int .i64 (x : Int))])
        (fun x A => x ≤ j ∧ Go.Sort.scanDown (fun x => ltInt k[a]! x) k i2 x = R ∧ Arr A b k post ∧ Chg [b] w A) (fun x _ => x) (j)
        ⟨Nat.le_refl _, hR, hA, hc⟩ ⟨rfl, rfl, rfl, rfl, trivial⟩ ?_
      clear hR hA hc
      rintro Jr x A ⟨hx3, hR, hA, hc⟩
      by_cases hx : i2 ≤ x
      · obtain ⟨q, rfl⟩ : ∃ q, x = q + 1 := ⟨x - 1, by omega⟩
        rw [Go.Sort.scanDown] at hR
        have hAd : Arr A.drew b k post := Blk.drew hA
        have c1 := hAd.cell (q + 1) (by omega) (0 + (q + 1)) (by omega)
        have c2 := hAd.cell a (by omega) (0 + a) (by omega)
        have hless := fun A => c_Less k[a]! k[q + 1]! A
        (refine Ga ?_)
        rcases hl : ltInt k[a]! k[q + 1]! with _ | _
        · rw [hl] at hless
          refine W_draws (fun A' => A' = World.drew A) rfl (by kernel_rfl) rfl ?_
          (refine Qa ?_)
          apply Qst_call (.bool false)
          focus rfl
          focus rfl
          · rintro _ rfl
            exact (hless _).mono fun v w' h => ⟨h.1, h.2.symm⟩
          (refine Qa ?_)
          rintro A' rfl
          clear c1 c2 hless
          have hcd := hc.drew
          clear hA hc
          have hA := hAd
          have hc := hcd
          clear hAd hcd
          generalize A.drew = A at *
          (refine Ga ?_)
          exact cutQ_n (q + 1) ⟨by rw [if_neg (by simp [hl])] at hR; exact hR, hA, hc⟩ ⟨rfl, rfl, rfl, rfl, trivial⟩
        · rw [hl] at hless
          refine W_draws (fun A' => A' = World.drew A) rfl (by kernel_rfl) rfl ?_
          (refine Qa ?_)
          apply Qst_call (.bool true)
          focus rfl
          focus rfl
          · rintro _ rfl
            exact (hless _).mono fun v w' h => ⟨h.1, h.2.symm⟩
          (refine Qa ?_)
          rintro A' rfl
          clear c1 c2 hless
          have hcd := hc.drew
          clear hA hc
          have hA := hAd
          have hc := hcd
          clear hAd hcd
          generalize A.drew = A at *
          (refine Ga ?_)
          refine rndQ_n (α := Nat) q ⟨by omega, by rw [if_pos (by simp [hl]; omega)] at hR; exact hR, hA, hc⟩ ⟨rfl, rfl, rfl, by show Value.int .i64 (((q + 1 : Nat) : Int) - 1) = Value.int .i64 (q : Int); congr 1; omega, trivial⟩ (Nat.lt_succ_self _)
      · have hR2 : x = R := by
          rcases x with _ | q
          · exact hR
          · rw [Go.Sort.scanDown, if_neg (by simp; omega)] at hR
            exact hR
        (refine Ga ?_)
        have hAd := Blk.drew hA
        refine W_draws (fun A' => A' = World.drew A) rfl (by kernel_rfl) rfl ?_
        (refine Qa ?_)
        rintro A' rfl
        have hcd := hc.drew
        clear hA hc
        have hA := hAd
        have hc := hcd
        clear hAd hcd
        generalize A.drew = A at *
        (refine Ga ?_)
        exact cutQ_n x ⟨hR2, hA, hc⟩ ⟨rfl, rfl, rfl, rfl, trivial⟩
    clear hA hc
    rintro Jc j2 A ⟨hj2, hA, hc⟩
    have hj2l := down_le (fun x => ltInt k[a]! x) k i2 j
    rw [← hj2] at hj2l
    rw [Go.Sort.partEqLoop] at hRo
    have hR1 : (if i2 > j2 then (i2, k) else if h : (j2 - 1) + 1 - (i2 + 1) < j + 1 - i then Go.Sort.partEqLoop ltInt a (i2 + 1) (j2 - 1) (swp k i2 j2) else (i2, k)) = R := by
      rw [← hRo, hj2, hi2]
    clear hRo hi2 hj2
    by_cases hij : i2 > j2
    · rw [if_pos hij] at hR1
      (refine Ga ?_)
      exact cutQ_n (i2, k) ⟨hR1, hA, hc⟩ ⟨rfl, trivial⟩
    · rw [if_neg hij, dif_pos (by omega)] at hR1
      have hks2 := swp_size k i2 j2
      (refine Ga ?_)
      first | refine W_cutS (α := Unit) (fun _ => [(0, .slice (some ⟨b, 0, none⟩) d.size c), (1, .int .i64 (a : Int)), (9, .int .i64 (i2 : Int)), (10, .int .i64 (j2 : Int))]) (fun _ A' => Arr A' b (Go.Sort.swp k i2 j2) post ∧ Chg [b] w A') ?_ ?_ | refine W_cutB (α := Unit) (fun _ => [(0, .slice (some ⟨b, 0, none⟩) d.size c), (1, .int .i64 (a : Int)), (9, .int .i64 (i2 : Int)), (10, .int .i64 (j2 : Int))]) (fun _ A' => Arr A' b (Go.Sort.swp k i2 j2) post ∧ Chg [b] w A') ?_ ?_
      · skip
        have hAd : Arr A.drew b k post := Blk.drew hA
        have hkl := us_len k
        have cI := hAd.cell i2 (by omega) (0 + i2) (by omega)
        have cJ := hAd.cell j2 (by omega) (0 + j2) (by omega)
        refine W_drawS 16 (fun _ => True) rfl rfl ?_
        (refine S_take 0 15 rfl (by kernel_rfl) (by repeat (first | exact retQ_p | apply seqQ_p | apply blkQ_p | apply rndQ_p | apply cutQ_p)) trivial ?_)
        (refine Gt ?_)
        (refine S_take 1 14 rfl (by kernel_rfl) (by repeat (first | exact retQ_p | apply seqQ_p | apply blkQ_p | apply rndQ_p | apply cutQ_p)) trivial ?_)
        (refine Gt ?_)
        (refine S_take 2 13 rfl (by kernel_rfl) (by repeat (first | exact retQ_p | apply seqQ_p | apply blkQ_p | apply rndQ_p | apply cutQ_p)) trivial ?_)
        (refine Gt ?_)
        (refine S_take 3 12 rfl (by kernel_rfl) (by repeat (first | exact retQ_p | apply seqQ_p | apply blkQ_p | apply rndQ_p | apply cutQ_p)) trivial ?_)
        (refine Gt ?_)
        (refine S_take 4 11 rfl (by kernel_rfl) (by repeat (first | exact retQ_p | apply seqQ_p | apply blkQ_p | apply rndQ_p | apply cutQ_p)) trivial ?_)
        (refine Gt ?_)
        (refine S_take 5 10 rfl (by kernel_rfl) (by repeat (first | exact retQ_p | apply seqQ_p | apply blkQ_p | apply rndQ_p | apply cutQ_p)) trivial ?_)
        (refine Gt ?_)
        (refine S_take 6 9 rfl (by kernel_rfl) (by repeat (first | exact retQ_p | apply seqQ_p | apply blkQ_p | apply rndQ_p | apply cutQ_p)) trivial ?_)
        (apply Qst_pu; (focus (first | (apply P_idx1; (focus rfl); (focus rfl); (focus rfl); (focus rfl); (focus rfl); (focus omega)) | (apply P_idxu; (focus rfl); (focus rfl); (focus rfl); (focus rfl); (focus rfl); (focus omega); (focus omega)))); (focus rfl); (repeat' (first | (apply Qst_nil) | (apply rnQ_k; (focus (exact trivial))))))
        (refine S_take 8 8 rfl (by kernel_rfl) (by repeat (first | exact retQ_p | apply seqQ_p | apply blkQ_p | apply rndQ_p | apply cutQ_p)) trivial ?_)
        (refine Gt ?_)
        (refine S_take 9 7 rfl (by kernel_rfl) (by repeat (first | exact retQ_p | apply seqQ_p | apply blkQ_p | apply rndQ_p | apply cutQ_p)) trivial ?_)
        (refine Gt ?_)
        (refine S_take 10 6 rfl (by kernel_rfl) (by repeat (first | exact retQ_p | apply seqQ_p | apply blkQ_p | apply rndQ_p | apply cutQ_p)) trivial ?_)
        (apply Qst_pu; (focus (first | (apply P_idx1; (focus rfl); (focus rfl); (focus rfl); (focus rfl); (focus rfl); (focus omega)) | (apply P_idxu; (focus rfl); (focus rfl); (focus rfl); (focus rfl); (focus rfl); (focus omega); (focus omega)))); (focus rfl); (repeat' (first | (apply Qst_nil) | (apply rnQ_k; (focus (exact trivial))))))
        refine S_any [7, 11] 5 rfl (by kernel_rfl) (all2 ?_ ?_)
        all_goals (refine Gt ?_)
        all_goals (refine ⟨trivial, ?_⟩)
        rotate_left
        (refine S_any [7] 4 rfl (by kernel_rfl) (all1 ?_))
        rotate_left
        (refine S_any [11] 4 rfl (by kernel_rfl) (all1 ?_))
        all_goals (refine Gt ?_)
        all_goals (refine ⟨trivial, ?_⟩)
        all_goals (refine S_take 12 3 rfl (by kernel_rfl) (by repeat (first | exact retQ_p | apply seqQ_p | apply blkQ_p | apply rndQ_p | apply cutQ_p)) trivial ?_)
        all_goals (apply Qst_pu; (focus (first | (apply P_idx1; (focus rfl); (focus rfl); (focus rfl); (focus rfl); (focus rfl); (focus omega)) | (apply P_idxu; (focus rfl); (focus rfl); (focus rfl); (focus rfl); (focus rfl); (focus omega); (focus omega)))); (focus rfl); (repeat' (first | (apply Qst_nil) | (apply rnQ_k; (focus (exact trivial))))))
        all_goals (refine S_any [13] 2 rfl (by kernel_rfl) (all1 ?_))
        all_goals (apply Lst_put (i := i2) (hb := hAd); (focus rfl); (focus rfl); (focus rfl); (focus rfl); (focus omega); (focus (first | (rw [List.length_append]; omega) | (rw [List.length_set, List.length_append]; omega))))
        all_goals (refine Gt ?_)
        all_goals (refine ⟨trivial, ?_⟩)
        all_goals (refine S_take 14 1 rfl (by kernel_rfl) (by repeat (first | exact retQ_p | apply seqQ_p | apply blkQ_p | apply rndQ_p | apply cutQ_p)) trivial ?_)
        all_goals (apply Qst_pu; (focus (first | (apply P_idx1; (focus rfl); (focus rfl); (focus rfl); (focus rfl); (focus rfl); (focus omega)) | (apply P_idxu; (focus rfl); (focus rfl); (focus rfl); (focus rfl); (focus rfl); (focus omega); (focus omega)))); (focus rfl); (repeat' (first | (apply Qst_nil) | (apply rnQ_k; (focus (exact trivial))))))
        all_goals (refine S_any [15] 0 rfl (by kernel_rfl) (all1 ?_))
        all_goals (apply Lst_put (i := j2) (hb := Blk.put_same hAd.lt _ _); (focus rfl); (focus rfl); (focus rfl); (focus rfl); (focus omega); (focus (first | (rw [List.length_append]; omega) | (rw [List.length_set, List.length_append]; omega))))
        all_goals (refine Gt ?_)
        all_goals (refine ⟨trivial, ?_⟩)
        all_goals (refine S_done (by kernel_rfl) ?_)
        all_goals have hA2 : Arr ((A.drew.putObj b (.cells ((us k ++ post).set i2 (.int .u64 k[j2]!)).toArray 27)).putObj b (.cells (((us k ++ post).set i2 (.int .u64 k[j2]!)).set j2 (.int .u64 k[i2]!)).toArray 27)) b (Go.Sort.swp k i2 j2) post := by unfold Arr; rw [us_swp k post i2 j2 (by omega) (by omega)]; exact Blk.put_same (by rw [World.putObj_size]; exact hAd.lt) _ _
        all_goals have hc2 : Chg [b] w ((A.drew.putObj b (.cells ((us k ++ post).set i2 (.int .u64 k[j2]!)).toArray 27)).putObj b (.cells (((us k ++ post).set i2 (.int .u64 k[j2]!)).set j2 (.int .u64 k[i2]!)).toArray 27)) := (hc.drew.put (by simp) _).put (by simp) _
        all_goals have hks2 := swp_size k i2 j2
        all_goals generalize (A.drew.putObj b (.cells ((us k ++ post).set i2 (.int .u64 k[j2]!)).toArray 27)).putObj b (.cells (((us k ++ post).set i2 (.int .u64 k[j2]!)).set j2 (.int .u64 k[i2]!)).toArray 27) = A2 at *
        all_goals (first | apply blkQ_n | skip)
        all_goals exact cutQ_n () ⟨hA2, hc2⟩ ⟨rfl, rfl, rfl, rfl, trivial⟩
      clear hA hc
      rintro Jc ⟨⟩ A ⟨hA, hc⟩
      (refine Ga ?_)
      refine rndQ_n (α := Nat × Nat × Array Int) (i2 + 1, j2 - 1, swp k i2 j2) ⟨by dsimp only; omega, by dsimp only; omega, hR1, hks2.trans hks, hA, hc⟩ ⟨rfl, rfl, by show Value.int .i64 ((i2 : Int) + 1) = Value.int .i64 ((i2 + 1 : Nat) : Int); rw [Int.natCast_add]; rfl, by show Value.int .i64 ((j2 : Int) - 1) = Value.int .i64 ((j2 - 1 : Nat) : Int); congr 1; omega, trivial⟩ (by dsimp only; omega)
  · clear hR hA hc
    rintro Jc ⟨i3, k3⟩ A ⟨hx, hA, hc⟩
    subst hx
    dsimp only at hA ⊢
    (refine Ga ?_)
    (apply retQ1; (focus rfl))
    exact ⟨rfl, hA, hc⟩
end So
namespace So
open Go Go.RowKit Sx
open Go.Sort (swp ltInt)
theorem scan_ge (d : Array Int) (b i : Nat) : i ≤ Go.Sort.scanSorted ltInt d b i := by
  fun_induction Go.Sort.scanSorted ltInt d b i <;> omega
theorem scan_le (d : Array Int) (b i : Nat) (h : i ≤ b) : Go.Sort.scanSorted ltInt d b i ≤ b := by
  fun_induction Go.Sort.scanSorted ltInt d b i with
  | case1 x hx ih =>
    simp at hx
    exact ih (by omega)
  | case2 x hx => exact h
attribute [local irreducible] W Lst Qst Pu seqQ blkQ rndQ cutQ retQ Does Enters IntKind.wrap bits sb World.alloc World.putObj Blk
attribute [local irreducible] Rn Tk rnQ
attribute [local irreducible] RnS
set_option maxHeartbeats 4000000 in
theorem c_partial (b a L m c : Nat) (d : Array Int) (post : List Value) (hm : m = d.size) (hh : a + L ≤ d.size) (hL : 1 ≤ L) (hsz : d.size < 1152921504606846976) (w : World) (h : Arr w b d post) :
    Does Try.prog 82 #[.slice (some ⟨b, 0, none⟩) m c, .int .i64 (a : Int), .int .i64 ((a + L : Nat) : Int)] w fun v w' => v = .bool (Go.Sort.partialInsertionSort ltInt d a (a + L)).2 ∧ Arr w' b (Go.Sort.partialInsertionSort ltInt d a (a + L)).1 post ∧ Chg [b] w w' := by
  refine Does_of (args := [.slice (some ⟨b, 0, none⟩) m c, .int .i64 (a : Int), .int .i64 ((a + L : Nat) : Int)]) Try.func82 (by kernel_rfl) rfl rfl rfl rfl rfl ?_
  generalize hG : Go.Sort.partialInsertionSort ltInt d a (a + L) = G
  unfold Go.Sort.partialInsertionSort at hG
  subst hm
  (refine Ga ?_)
  refine W_loop (α := Nat × Nat × Array Int) (fun x => [(0, .slice (some ⟨b, 0, none⟩) d.size c), (1, .int .i64 (a : Int)), (2, .int .i64 ((a + L : Nat) : Int)), (7, .int .i64 (x.2.1 : Int)), (8, .int .i64 (5 - (x.1 : Int)))])
    (fun x A => x.1 ≤ 5 ∧ a + 1 ≤ x.2.1 ∧ x.2.1 ≤ a + L ∧ Go.Sort.partialIns ltInt a (a + L) x.1 x.2.1 x.2.2 = G ∧ x.2.2.size = d.size ∧ Arr A b x.2.2 post ∧ Chg [b] w A) (fun x _ => x.1) (5, a + 1, d)
    ⟨Nat.le_refl _, Nat.le_refl _, by dsimp only; omega, hG, rfl, h, Chg.refl _ _⟩ ⟨rfl, rfl, rfl, by show Value.int .i64 ((a : Int) + 1) = Value.int .i64 ((a + 1 : Nat) : Int); rw [Int.natCast_add]; rfl, rfl, trivial⟩ ?_
  clear h hG
  rintro J ⟨s, i, k⟩ A ⟨hs, hi, hi2, hG, hks, hA, hc⟩
  dsimp only at hs hi hi2 hG hks hA ⊢
  rcases s with _ | s
  · have hG2 : (k, false) = G := hG
    subst hG2
    (refine Ga ?_)
    (apply retQ1; (focus rfl))
    exact ⟨rfl, hA, hc⟩
  · rw [Go.Sort.partialIns] at hG
    dsimp only at hG
    (refine Ga ?_)
    refine W_cutB (α := Nat) (fun i2 => [(0, .slice (some ⟨b, 0, none⟩) d.size c), (1, .int .i64 (a : Int)), (2, .int .i64 ((a + L : Nat) : Int)), (7, .int .i64 (i2 : Int)), (8, .int .i64 (5 - ((s + 1 : Nat) : Int)))]) (fun x A => x = Go.Sort.scanSorted ltInt k (a + L) i ∧ Arr A b k post ∧ Chg [b] w A) ?_ ?_
    · generalize hR : Go.Sort.scanSorted ltInt k (a + L) i = R
      refine W_loop (α := Nat) (fun i2 => [(0, .slice (some ⟨b, 0, none⟩) d.size c), (1, .int .i64 (a : Int)), (2, .int .i64 ((a + L : Nat) : Int)), (7, .int .i64 (i2 : Int)), (8, .int .i64 (5 - ((s + 1 : Nat) : Int)))])
        (fun x A => a + 1 ≤ x ∧ Go.Sort.scanSorted ltInt k (a + L) x = R ∧ Arr A b k post ∧ Chg [b] w A) (fun x _ => a + L - x) i
        ⟨hi, hR, hA, hc⟩ ⟨rfl, rfl, rfl, rfl, rfl, trivial⟩ ?_
      clear hR hA hc
      rintro Jr x A ⟨hx1, hR, hA, hc⟩
      rw [Go.Sort.scanSorted] at hR
      by_cases hx : x < a + L
      · have hAd : Arr A.drew b k post := Blk.drew hA
        have c1 := hAd.cell x (by omega) (0 + x) (by omega)
        have c2 := hAd.cell (x - 1) (by omega) (0 + ((x : Int) - 1).toNat) (by omega)
        have hless := fun A => c_Less k[x]! k[x - 1]! A
        (refine Ga ?_)
        rcases hl : ltInt k[x]! k[x - 1]! with _ | _
        · rw [hl] at hless
          refine W_draws (fun A' => A' = World.drew A) rfl (by kernel_rfl) rfl ?_
          (refine Qa ?_)
          apply Qst_call (.bool false)
          focus rfl
          focus rfl
          · rintro _ rfl
            exact (hless _).mono fun v w' h => ⟨h.1, h.2.symm⟩
          (refine Qa ?_)
          rintro A' rfl
          clear c1 c2 hless
          have hcd := hc.drew
          clear hA hc
          have hA := hAd
          have hc := hcd
          clear hAd hcd
          generalize A.drew = A at *
          (refine Ga ?_)
          refine rndQ_n (α := Nat) (x + 1) ⟨by omega, by rw [if_pos (by simp [hl]; omega)] at hR; exact hR, hA, hc⟩ ⟨rfl, rfl, rfl, by show Value.int .i64 ((x : Int) + 1) = Value.int .i64 ((x + 1 : Nat) : Int); rw [Int.natCast_add]; rfl, rfl, trivial⟩ (by omega)
        · rw [hl] at hless
          refine W_draws (fun A' => A' = World.drew A) rfl (by kernel_rfl) rfl ?_
          (refine Qa ?_)
          apply Qst_call (.bool true)
          focus rfl
          focus rfl
          · rintro _ rfl
            exact (hless _).mono fun v w' h => ⟨h.1, h.2.symm⟩
          (refine Qa ?_)
          rintro A' rfl
          clear c1 c2 hless
          have hcd := hc.drew
          clear hA hc
          have hA := hAd
          have hc := hcd
          clear hAd hcd
          generalize A.drew = A at *
          (refine Ga ?_)
          exact cutQ_n x ⟨by rw [if_neg (by simp [hl])] at hR; exact hR, hA, hc⟩ ⟨rfl, rfl, rfl, rfl, rfl, trivial⟩
      · (refine Ga ?_)
        have hAd := Blk.drew hA
        refine W_draws (fun A' => A' = World.drew A) rfl (by kernel_rfl) rfl ?_
        (refine Qa ?_)
        rintro A' rfl
        have hcd := hc.drew
        clear hA hc
        have hA := hAd
        have hc := hcd
        clear hAd hcd
        generalize A.drew = A at *
        (refine Ga ?_)
        exact cutQ_n x ⟨by rw [if_neg (by simp [hx])] at hR; exact hR, hA, hc⟩ ⟨rfl, rfl, rfl, rfl, rfl, trivial⟩
    clear hA hc
    rintro Jc i2 A ⟨hx, hA, hc⟩
    have hge := scan_ge k (a + L) i
    have hle := scan_le k (a + L) i hi2
    rw [← hx] at hG hge hle
    clear hx
    by_cases he : i2 = a + L
    · rw [if_pos he] at hG
      subst hG
      (refine Ga ?_)
      (apply retQ1; (focus rfl))
      exact ⟨rfl, hA, hc⟩
    · rw [if_neg he] at hG
      by_cases h50 : a + L - a < 50
      · rw [if_pos h50] at hG
        subst hG
        (refine Ga ?_)
        (apply retQ1; (focus rfl))
        exact ⟨rfl, hA, hc⟩
      · rw [if_neg h50] at hG
        have hks2 := swp_size k i2 (i2 - 1)
        (refine Ga ?_)
        first | refine W_cutS (α := Unit) (fun _ => [(0, .slice (some ⟨b, 0, none⟩) d.size c), (1, .int .i64 (a : Int)), (2, .int .i64 ((a + L : Nat) : Int)), (7, .int .i64 (i2 : Int)), (8, .int .i64 (5 - ((s + 1 : Nat) : Int)))]) (fun _ A' => Arr A' b (Go.Sort.swp k i2 (i2 - 1)) post ∧ Chg [b] w A') ?_ ?_ | refine W_cutB (α := Unit) (fun _ => [(0, .slice (some ⟨b, 0, none⟩) d.size c), (1, .int .i64 (a : Int)), (2, .int .i64 ((a + L : Nat) : Int)), (7, .int .i64 (i2 : Int)), (8, .int .i64 (5 - ((s + 1 : Nat) : Int)))]) (fun _ A' => Arr A' b (Go.Sort.swp k i2 (i2 - 1)) post ∧ Chg [b] w A') ?_ ?_
        · skip
          have hAd : Arr A.drew b k post := Blk.drew hA
          have hkl := us_len k
          have cI := hAd.cell i2 (by omega) (0 + i2) (by omega)
          have cJ := hAd.cell (i2 - 1) (by omega) (0 + ((i2 : Int) - 1).toNat) (by omega)
          refine W_drawS 18 (fun _ => True) rfl rfl ?_
          (refine S_take 0 17 rfl (by kernel_rfl) (by repeat (first | exact retQ_p | apply seqQ_p | apply blkQ_p | apply rndQ_p | apply cutQ_p)) trivial ?_)
          (refine Gt ?_)
          (refine S_take 1 16 rfl (by kernel_rfl) (by repeat (first | exact retQ_p | apply seqQ_p | apply blkQ_p | apply rndQ_p | apply cutQ_p)) trivial ?_)
          (refine Gt ?_)
          (refine S_take 2 15 rfl (by kernel_rfl) (by repeat (first | exact retQ_p | apply seqQ_p | apply blkQ_p | apply rndQ_p | apply cutQ_p)) trivial ?_)
          (refine Gt ?_)
          (refine S_take 3 14 rfl (by kernel_rfl) (by repeat (first | exact retQ_p | apply seqQ_p | apply blkQ_p | apply rndQ_p | apply cutQ_p)) trivial ?_)
          (refine Gt ?_)
          (refine S_take 4 13 rfl (by kernel_rfl) (by repeat (first | exact retQ_p | apply seqQ_p | apply blkQ_p | apply rndQ_p | apply cutQ_p)) trivial ?_)
          (refine Gt ?_)
          (refine S_take 5 12 rfl (by kernel_rfl) (by repeat (first | exact retQ_p | apply seqQ_p | apply blkQ_p | apply rndQ_p | apply cutQ_p)) trivial ?_)
          (refine Gt ?_)
          (refine S_take 6 11 rfl (by kernel_rfl) (by repeat (first | exact retQ_p | apply seqQ_p | apply blkQ_p | apply rndQ_p | apply cutQ_p)) trivial ?_)
          (refine Gt ?_)
          (refine S_take 7 10 rfl (by kernel_rfl) (by repeat (first | exact retQ_p | apply seqQ_p | apply blkQ_p | apply rndQ_p | apply cutQ_p)) trivial ?_)
          (refine Gt ?_)
          (refine S_take 8 9 rfl (by kernel_rfl) (by repeat (first | exact retQ_p | apply seqQ_p | apply blkQ_p | apply rndQ_p | apply cutQ_p)) trivial ?_)
          (apply Qst_pu; (focus (first | (apply P_idx1; (focus rfl); (focus rfl); (focus rfl); (focus rfl); (focus rfl); (focus omega)) | (apply P_idxu; (focus rfl); (focus rfl); (focus rfl); (focus rfl); (focus rfl); (focus omega); (focus omega)))); (focus rfl); (repeat' (first | (apply Qst_nil) | (apply rnQ_k; (focus (exact trivial))))))
          (refine S_take 10 8 rfl (by kernel_rfl) (by repeat (first | exact retQ_p | apply seqQ_p | apply blkQ_p | apply rndQ_p | apply cutQ_p)) trivial ?_)
          (refine Gt ?_)
          (refine S_take 11 7 rfl (by kernel_rfl) (by repeat (first | exact retQ_p | apply seqQ_p | apply blkQ_p | apply rndQ_p | apply cutQ_p)) trivial ?_)
          (refine Gt ?_)
          (refine S_take 12 6 rfl (by kernel_rfl) (by repeat (first | exact retQ_p | apply seqQ_p | apply blkQ_p | apply rndQ_p | apply cutQ_p)) trivial ?_)
          (apply Qst_pu; (focus (first | (apply P_idx1; (focus rfl); (focus rfl); (focus rfl); (focus rfl); (focus rfl); (focus omega)) | (apply P_idxu; (focus rfl); (focus rfl); (focus rfl); (focus rfl); (focus rfl); (focus omega); (focus omega)))); (focus rfl); (repeat' (first | (apply Qst_nil) | (apply rnQ_k; (focus (exact trivial))))))
          refine S_any [9, 13] 5 rfl (by kernel_rfl) (all2 ?_ ?_)
          all_goals (refine Gt ?_)
          all_goals (refine ⟨trivial, ?_⟩)
          rotate_left
          (refine S_any [9] 4 rfl (by kernel_rfl) (all1 ?_))
          rotate_left
          (refine S_any [13] 4 rfl (by kernel_rfl) (all1 ?_))
          all_goals (refine Gt ?_)
          all_goals (refine ⟨trivial, ?_⟩)
          all_goals (refine S_take 14 3 rfl (by kernel_rfl) (by repeat (first | exact retQ_p | apply seqQ_p | apply blkQ_p | apply rndQ_p | apply cutQ_p)) trivial ?_)
          all_goals (apply Qst_pu; (focus (first | (apply P_idx1; (focus rfl); (focus rfl); (focus rfl); (focus rfl); (focus rfl); (focus omega)) | (apply P_idxu; (focus rfl); (focus rfl); (focus rfl); (focus rfl); (focus rfl); (focus omega); (focus omega)))); (focus rfl); (repeat' (first | (apply Qst_nil) | (apply rnQ_k; (focus (exact trivial))))))
          all_goals (refine S_any [15] 2 rfl (by kernel_rfl) (all1 ?_))
          all_goals (apply Lst_put (i := i2) (hb := hAd); (focus rfl); (focus rfl); (focus rfl); (focus rfl); (focus omega); (focus (first | (rw [List.length_append]; omega) | (rw [List.length_set, List.length_append]; omega))))
          all_goals (refine Gt ?_)
          all_goals (refine ⟨trivial, ?_⟩)
          all_goals (refine S_take 16 1 rfl (by kernel_rfl) (by repeat (first | exact retQ_p | apply seqQ_p | apply blkQ_p | apply rndQ_p | apply cutQ_p)) trivial ?_)
          all_goals (apply Qst_pu; (focus (first | (apply P_idx1; (focus rfl); (focus rfl); (focus rfl); (focus rfl); (focus rfl); (focus omega)) | (apply P_idxu; (focus rfl); (focus rfl); (focus rfl); (focus rfl); (focus rfl); (focus omega); (focus omega)))); (focus rfl); (repeat' (first | (apply Qst_nil) | (apply rnQ_k; (focus (exact trivial))))))
          all_goals (refine S_any [17] 0 rfl (by kernel_rfl) (all1 ?_))
          all_goals (apply Lst_put (i := (i2 - 1)) (hb := Blk.put_same hAd.lt _ _); (focus rfl); (focus rfl); (focus rfl); (focus rfl); (focus omega); (focus (first | (rw [List.length_append]; omega) | (rw [List.length_set, List.length_append]; omega))))
          all_goals (refine Gt ?_)
          all_goals (refine ⟨trivial, ?_⟩)
          all_goals (refine S_done (by kernel_rfl) ?_)
          all_goals have hA2 : Arr ((A.drew.putObj b (.cells ((us k ++ post).set i2 (.int .u64 k[(i2 - 1)]!)).toArray 27)).putObj b (.cells (((us k ++ post).set i2 (.int .u64 k[(i2 - 1)]!)).set (i2 - 1) (.int .u64 k[i2]!)).toArray 27)) b (Go.Sort.swp k i2 (i2 - 1)) post := by unfold Arr; rw [us_swp k post i2 (i2 - 1) (by omega) (by omega)]; exact Blk.put_same (by rw [World.putObj_size]; exact hAd.lt) _ _
          all_goals have hc2 : Chg [b] w ((A.drew.putObj b (.cells ((us k ++ post).set i2 (.int .u64 k[(i2 - 1)]!)).toArray 27)).putObj b (.cells (((us k ++ post).set i2 (.int .u64 k[(i2 - 1)]!)).set (i2 - 1) (.int .u64 k[i2]!)).toArray 27)) := (hc.drew.put (by simp) _).put (by simp) _
          all_goals have hks2 := swp_size k i2 (i2 - 1)
          all_goals generalize (A.drew.putObj b (.cells ((us k ++ post).set i2 (.int .u64 k[(i2 - 1)]!)).toArray 27)).putObj b (.cells (((us k ++ post).set i2 (.int .u64 k[(i2 - 1)]!)).set (i2 - 1) (.int .u64 k[i2]!)).toArray 27) = A2 at *
          all_goals (first | apply blkQ_n | skip)
          all_goals exact cutQ_n () ⟨hA2, hc2⟩ ⟨rfl, rfl, rfl, rfl, rfl, trivial⟩
        clear hA hc
        rintro Jc ⟨⟩ A ⟨hA, hc⟩
        generalize swp k i2 (i2 - 1) = k3 at *
        refine W_seq ?_
        refine W_cutS (α := Array Int) (fun _ => [(0, .slice (some ⟨b, 0, none⟩) d.size c), (1, .int .i64 (a : Int)), (2, .int .i64 ((a + L : Nat) : Int)), (7, .int .i64 (i2 : Int)), (8, .int .i64 (5 - ((s + 1 : Nat) : Int)))]) (fun x A => x = (if i2 - a ≥ 2 then Go.Sort.shiftDown ltInt (i2 - 1) k3 else k3) ∧ x.size = d.size ∧ Arr A b x post ∧ Chg [b] w A) ?_ ?_
        · by_cases h2 : i2 - a ≥ 2
          · rw [if_pos h2]
            generalize hR : Go.Sort.shiftDown ltInt (i2 - 1) k3 = R
            (refine Ga ?_)
            refine W_loop (α := Nat × Array Int) (fun x => (9, .int .i64 (x.1 : Int)) :: [(0, .slice (some ⟨b, 0, none⟩) d.size c), (1, .int .i64 (a : Int)), (2, .int .i64 ((a + L : Nat) : Int)), (7, .int .i64 (i2 : Int)), (8, .int .i64 (5 - ((s + 1 : Nat) : Int)))])
              (fun x A => x.1 < d.size ∧ Go.Sort.shiftDown ltInt x.1 x.2 = R ∧ x.2.size = d.size ∧ Arr A b x.2 post ∧ Chg [b] w A) (fun x _ => x.1) (i2 - 1, k3)
              ⟨by dsimp only; omega, hR, hks2.trans hks, hA, hc⟩ ⟨by show Value.int .i64 ((i2 : Int) - 1) = Value.int .i64 ((i2 - 1 : Nat) : Int); congr 1; omega, rfl, rfl, rfl, rfl, rfl, trivial⟩ ?_
            clear hR hA hc hks2 hks hG
            rintro Jr ⟨j, k⟩ A ⟨hj, hR, hks, hA, hc⟩
            dsimp only at hj hR hks hA ⊢
            rcases j with _ | q
            · have hR2 : k = R := hR
              (refine Ga ?_)
              exact cutQ_n k ⟨hR2, hks, hA, hc⟩ ⟨rfl, rfl, rfl, rfl, rfl, trivial⟩
            · rw [Go.Sort.shiftDown] at hR
              have hAd : Arr A.drew b k post := Blk.drew hA
              have c1 := hAd.cell (q + 1) (by omega) (0 + (q + 1)) (by omega)
              have c2 := hAd.cell q (by omega) (0 + (((q + 1 : Nat) : Int) - 1).toNat) (by omega)
              have hless := fun A => c_Less k[q + 1]! k[q]! A
              (refine Ga ?_)
              rcases hl : ltInt k[q + 1]! k[q]! with _ | _
              · rw [hl] at hless
                rw [if_pos (by simp [hl])] at hR
                refine W_draws (fun A' => A' = World.drew A) rfl (by kernel_rfl) rfl ?_
                (refine Qa ?_)
                apply Qst_call (.bool false)
                focus rfl
                focus rfl
                · rintro _ rfl
                  exact (hless _).mono fun v w' h => ⟨h.1, h.2.symm⟩
                (refine Qa ?_)
                rintro A' rfl
                clear c1 c2 hless
                have hcd := hc.drew
                clear hA hc
                have hA := hAd
                have hc := hcd
                clear hAd hcd
                generalize A.drew = A at *
                (refine Ga ?_)
                exact cutQ_n k ⟨hR, hks, hA, hc⟩ ⟨rfl, rfl, rfl, rfl, rfl, trivial⟩
              · rw [hl] at hless
                rw [if_neg (by simp [hl])] at hR
                refine W_draws (fun A' => A' = World.drew A) rfl (by kernel_rfl) rfl ?_
                (refine Qa ?_)
                apply Qst_call (.bool true)
                focus rfl
                focus rfl
                · rintro _ rfl
                  exact (hless _).mono fun v w' h => ⟨h.1, h.2.symm⟩
                (refine Qa ?_)
                rintro A' rfl
                clear c1 c2 hless
                have hcd := hc.drew
                clear hA hc
                have hA := hAd
                have hc := hcd
                clear hAd hcd
                generalize A.drew = A at *
                (refine Ga ?_)
                have hks2 := swp_size k (q + 1) q
                first | refine W_cutS (α := Unit) (fun _ => (9, .int .i64 ((q + 1 : Nat) : Int)) :: [(0, .slice (some ⟨b, 0, none⟩) d.size c), (1, .int .i64 (a : Int)), (2, .int .i64 ((a + L : Nat) : Int)), (7, .int .i64 (i2 : Int)), (8, .int .i64 (5 - ((s + 1 : Nat) : Int)))]) (fun _ A' => Arr A' b (Go.Sort.swp k (q + 1) q) post ∧ Chg [b] w A') ?_ ?_ | refine W_cutB (α := Unit) (fun _ => (9, .int .i64 ((q + 1 : Nat) : Int)) :: [(0, .slice (some ⟨b, 0, none⟩) d.size c), (1, .int .i64 (a : Int)), (2, .int .i64 ((a + L : Nat) : Int)), (7, .int .i64 (i2 : Int)), (8, .int .i64 (5 - ((s + 1 : Nat) : Int)))]) (fun _ A' => Arr A' b (Go.Sort.swp k (q + 1) q) post ∧ Chg [b] w A') ?_ ?_
                · skip
                  have hAd : Arr A.drew b k post := Blk.drew hA
                  have hkl := us_len k
                  have cI := hAd.cell (q + 1) (by omega) (0 + (q + 1)) (by omega)
                  have cJ := hAd.cell q (by omega) (0 + (((q + 1 : Nat) : Int) - 1).toNat) (by omega)
                  refine W_drawS 18 (fun _ => True) rfl rfl ?_
                  (refine S_take 0 17 rfl (by kernel_rfl) (by repeat (first | exact retQ_p | apply seqQ_p | apply blkQ_p | apply rndQ_p | apply cutQ_p)) trivial ?_)
                  (refine Gt ?_)
                  (refine S_take 1 16 rfl (by kernel_rfl) (by repeat (first | exact retQ_p | apply seqQ_p | apply blkQ_p | apply rndQ_p | apply cutQ_p)) trivial ?_)
                  (refine Gt ?_)
                  (refine S_take 2 15 rfl (by kernel_rfl) (by repeat (first | exact retQ_p | apply seqQ_p | apply blkQ_p | apply rndQ_p | apply cutQ_p)) trivial ?_)
                  (refine Gt ?_)
                  (refine S_take 3 14 rfl (by kernel_rfl) (by repeat (first | exact retQ_p | apply seqQ_p | apply blkQ_p | apply rndQ_p | apply cutQ_p)) trivial ?_)
                  (refine Gt ?_)
                  (refine S_take 4 13 rfl (by kernel_rfl) (by repeat (first | exact retQ_p | apply seqQ_p | apply blkQ_p | apply rndQ_p | apply cutQ_p)) trivial ?_)
                  (refine Gt ?_)
                  (refine S_take 5 12 rfl (by kernel_rfl) (by repeat (first | exact retQ_p | apply seqQ_p | apply blkQ_p | apply rndQ_p | apply cutQ_p)) trivial ?_)
                  (refine Gt ?_)
                  (refine S_take 6 11 rfl (by kernel_rfl) (by repeat (first | exact retQ_p | apply seqQ_p | apply blkQ_p | apply rndQ_p | apply cutQ_p)) trivial ?_)
                  (refine Gt ?_)
                  (refine S_take 7 10 rfl (by kernel_rfl) (by repeat (first | exact retQ_p | apply seqQ_p | apply blkQ_p | apply rndQ_p | apply cutQ_p)) trivial ?_)
                  (refine Gt ?_)
                  (refine S_take 8 9 rfl (by kernel_rfl) (by repeat (first | exact retQ_p | apply seqQ_p | apply blkQ_p | apply rndQ_p | apply cutQ_p)) trivial ?_)
                  (apply Qst_pu; (focus (first | (apply P_idx1; (focus rfl); (focus rfl); (focus rfl); (focus rfl); (focus rfl); (focus omega)) | (apply P_idxu; (focus rfl); (focus rfl); (focus rfl); (focus rfl); (focus rfl); (focus omega); (focus omega)))); (focus rfl); (repeat' (first | (apply Qst_nil) | (apply rnQ_k; (focus (exact trivial))))))
                  (refine S_take 10 8 rfl (by kernel_rfl) (by repeat (first | exact retQ_p | apply seqQ_p | apply blkQ_p | apply rndQ_p | apply cutQ_p)) trivial ?_)
                  (refine Gt ?_)
                  (refine S_take 11 7 rfl (by kernel_rfl) (by repeat (first | exact retQ_p | apply seqQ_p | apply blkQ_p | apply rndQ_p | apply cutQ_p)) trivial ?_)
                  (refine Gt ?_)
                  (refine S_take 12 6 rfl (by kernel_rfl) (by repeat (first | exact retQ_p | apply seqQ_p | apply blkQ_p | apply rndQ_p | apply cutQ_p)) trivial ?_)
                  (apply Qst_pu; (focus (first | (apply P_idx1; (focus rfl); (focus rfl); (focus rfl); (focus rfl); (focus rfl); (focus omega)) | (apply P_idxu; (focus rfl); (focus rfl); (focus rfl); (focus rfl); (focus rfl); (focus omega); (focus omega)))); (focus rfl); (repeat' (first | (apply Qst_nil) | (apply rnQ_k; (focus (exact trivial))))))
                  refine S_any [9, 13] 5 rfl (by kernel_rfl) (all2 ?_ ?_)
                  all_goals (refine Gt ?_)
                  all_goals (refine ⟨trivial, ?_⟩)
                  rotate_left
                  (refine S_any [9] 4 rfl (by kernel_rfl) (all1 ?_))
                  rotate_left
                  (refine S_any [13] 4 rfl (by kernel_rfl) (all1 ?_))
                  all_goals (refine Gt ?_)
                  all_goals (refine ⟨trivial, ?_⟩)
                  all_goals (refine S_take 14 3 rfl (by kernel_rfl) (by repeat (first | exact retQ_p | apply seqQ_p | apply blkQ_p | apply rndQ_p | apply cutQ_p)) trivial ?_)
                  all_goals (apply Qst_pu; (focus (first | (apply P_idx1; (focus rfl); (focus rfl); (focus rfl); (focus rfl); (focus rfl); (focus omega)) | (apply P_idxu; (focus rfl); (focus rfl); (focus rfl); (focus rfl); (focus rfl); (focus omega); (focus omega)))); (focus rfl); (repeat' (first | (apply Qst_nil) | (apply rnQ_k; (focus (exact trivial))))))
                  all_goals (refine S_any [15] 2 rfl (by kernel_rfl) (all1 ?_))
                  all_goals (apply Lst_put (i := (q + 1)) (hb := hAd); (focus rfl); (focus rfl); (focus rfl); (focus rfl); (focus omega); (focus (first | (rw [List.length_append]; omega) | (rw [List.length_set, List.length_append]; omega))))
                  all_goals (refine Gt ?_)
                  all_goals (refine ⟨trivial, ?_⟩)
                  all_goals (refine S_take 16 1 rfl (by kernel_rfl) (by repeat (first | exact retQ_p | apply seqQ_p | apply blkQ_p | apply rndQ_p | apply cutQ_p)) trivial ?_)
                  all_goals (apply Qst_pu; (focus (first | (apply P_idx1; (focus rfl); (focus rfl); (focus rfl); (focus rfl); (focus rfl); (focus omega)) | (apply P_idxu; (focus rfl); (focus rfl); (focus rfl); (focus rfl); (focus rfl); (focus omega); (focus omega)))); (focus rfl); (repeat' (first | (apply Qst_nil) | (apply rnQ_k; (focus (exact trivial))))))
                  all_goals (refine S_any [17] 0 rfl (by kernel_rfl) (all1 ?_))
                  all_goals (apply Lst_put (i := q) (hb := Blk.put_same hAd.lt _ _); (focus rfl); (focus rfl); (focus rfl); (focus rfl); (focus omega); (focus (first | (rw [List.length_append]; omega) | (rw [List.length_set, List.length_append]; omega))))
                  all_goals (refine Gt ?_)
                  all_goals (refine ⟨trivial, ?_⟩)
                  all_goals (refine S_done (by kernel_rfl) ?_)
                  all_goals have hA2 : Arr ((A.drew.putObj b (.cells ((us k ++ post).set (q + 1) (.int .u64 k[q]!)).toArray 27)).putObj b (.cells (((us k ++ post).set (q + 1) (.int .u64 k[q]!)).set q (.int .u64 k[(q + 1)]!)).toArray 27)) b (Go.Sort.swp k (q + 1) q) post := by unfold Arr; rw [us_swp k post (q + 1) q (by omega) (by omega)]; exact Blk.put_same (by rw [World.putObj_size]; exact hAd.lt) _ _
                  all_goals have hc2 : Chg [b] w ((A.drew.putObj b (.cells ((us k ++ post).set (q + 1) (.int .u64 k[q]!)).toArray 27)).putObj b (.cells (((us k ++ post).set (q + 1) (.int .u64 k[q]!)).set q (.int .u64 k[(q + 1)]!)).toArray 27)) := (hc.drew.put (by simp) _).put (by simp) _
                  all_goals have hks2 := swp_size k (q + 1) q
                  all_goals generalize (A.drew.putObj b (.cells ((us k ++ post).set (q + 1) (.int .u64 k[q]!)).toArray 27)).putObj b (.cells (((us k ++ post).set (q + 1) (.int .u64 k[q]!)).set q (.int .u64 k[(q + 1)]!)).toArray 27) = A2 at *
                  all_goals (first | apply blkQ_n | skip)
                  all_goals exact cutQ_n () ⟨hA2, hc2⟩ ⟨rfl, rfl, rfl, rfl, rfl, rfl, trivial⟩
                clear hA hc
                rintro Jc ⟨⟩ A ⟨hA, hc⟩
                (refine Ga ?_)
                refine rndQ_n (α := Nat × Array Int) (q, swp k (q + 1) q) ⟨by dsimp only; omega, hR, hks2.trans hks, hA, hc⟩ ⟨by show Value.int .i64 (((q + 1 : Nat) : Int) - 1) = Value.int .i64 (q : Int); congr 1; omega, rfl, rfl, rfl, rfl, rfl, trivial⟩ (Nat.lt_succ_self _)
          · rw [if_neg h2]
            (refine Ga ?_)
            exact cutQ_n k3 ⟨rfl, hks2.trans hks, hA, hc⟩ ⟨rfl, rfl, rfl, rfl, rfl, trivial⟩
        clear hA hc hks2
        rintro Jc k4 A ⟨hk4, hks4, hA, hc⟩
        rw [← hk4] at hG
        clear hk4 k3
        refine W_cutB (α := Array Int) (fun _ => [(0, .slice (some ⟨b, 0, none⟩) d.size c), (1, .int .i64 (a : Int)), (2, .int .i64 ((a + L : Nat) : Int)), (7, .int .i64 (i2 : Int)), (8, .int .i64 (5 - ((s + 1 : Nat) : Int)))]) (fun x A => x = (if a + L - i2 ≥ 2 then Go.Sort.shiftUp ltInt (a + L) (i2 + 1) k4 else k4) ∧ x.size = d.size ∧ Arr A b x post ∧ Chg [b] w A) ?_ ?_
        · by_cases h3 : a + L - i2 ≥ 2
          · rw [if_pos h3]
            generalize hR : Go.Sort.shiftUp ltInt (a + L) (i2 + 1) k4 = R
            (refine Ga ?_)
            refine W_loop (α := Nat × Array Int) (fun x => (10, .int .i64 (x.1 : Int)) :: [(0, .slice (some ⟨b, 0, none⟩) d.size c), (1, .int .i64 (a : Int)), (2, .int .i64 ((a + L : Nat) : Int)), (7, .int .i64 (i2 : Int)), (8, .int .i64 (5 - ((s + 1 : Nat) : Int)))])
              (fun x A => i2 + 1 ≤ x.1 ∧ Go.Sort.shiftUp ltInt (a + L) x.1 x.2 = R ∧ x.2.size = d.size ∧ Arr A b x.2 post ∧ Chg [b] w A) (fun x _ => a + L - x.1) (i2 + 1, k4)
              ⟨Nat.le_refl _, hR, hks4, hA, hc⟩ ⟨by show Value.int .i64 ((i2 : Int) + 1) = Value.int .i64 ((i2 + 1 : Nat) : Int); rw [Int.natCast_add]; rfl, rfl, rfl, rfl, rfl, rfl, trivial⟩ ?_
            clear hR hA hc hks4 hG
            rintro Jr ⟨j, k⟩ A ⟨hj, hR, hks, hA, hc⟩
            dsimp only at hj hR hks hA ⊢
            rw [Go.Sort.shiftUp] at hR
            by_cases hjb : j < a + L
            · rw [if_pos hjb] at hR
              have hAd : Arr A.drew b k post := Blk.drew hA
              have c1 := hAd.cell j (by omega) (0 + j) (by omega)
              have c2 := hAd.cell (j - 1) (by omega) (0 + ((j : Int) - 1).toNat) (by omega)
              have hless := fun A => c_Less k[j]! k[j - 1]! A
              (refine Ga ?_)
              rcases hl : ltInt k[j]! k[j - 1]! with _ | _
              · rw [hl] at hless
                rw [if_pos (by simp [hl])] at hR
                refine W_draws (fun A' => A' = World.drew A) rfl (by kernel_rfl) rfl ?_
                (refine Qa ?_)
                apply Qst_call (.bool false)
                focus rfl
                focus rfl
                · rintro _ rfl
                  exact (hless _).mono fun v w' h => ⟨h.1, h.2.symm⟩
                (refine Qa ?_)
                rintro A' rfl
                clear c1 c2 hless
                have hcd := hc.drew
                clear hA hc
                have hA := hAd
                have hc := hcd
                clear hAd hcd
                generalize A.drew = A at *
                (refine Ga ?_)
                exact cutQ_n k ⟨hR, hks, hA, hc⟩ ⟨rfl, rfl, rfl, rfl, rfl, trivial⟩
              · rw [hl] at hless
                rw [if_neg (by simp [hl])] at hR
                refine W_draws (fun A' => A' = World.drew A) rfl (by kernel_rfl) rfl ?_
                (refine Qa ?_)
                apply Qst_call (.bool true)
                focus rfl
                focus rfl
                · rintro _ rfl
                  exact (hless _).mono fun v w' h => ⟨h.1, h.2.symm⟩
                (refine Qa ?_)
                rintro A' rfl
                clear c1 c2 hless
                have hcd := hc.drew
                clear hA hc
                have hA := hAd
                have hc := hcd
                clear hAd hcd
                generalize A.drew = A at *
                (refine Ga ?_)
                have hks2 := swp_size k j (j - 1)
                first | refine W_cutS (α := Unit) (fun _ => (10, .int .i64 ((j : Nat) : Int)) :: [(0, .slice (some ⟨b, 0, none⟩) d.size c), (1, .int .i64 (a : Int)), (2, .int .i64 ((a + L : Nat) : Int)), (7, .int .i64 (i2 : Int)), (8, .int .i64 (5 - ((s + 1 : Nat) : Int)))]) (fun _ A' => Arr A' b (Go.Sort.swp k j (j - 1)) post ∧ Chg [b] w A') ?_ ?_ | refine W_cutB (α := Unit) (fun _ => (10, .int .i64 ((j : Nat) : Int)) :: [(0, .slice (some ⟨b, 0, none⟩) d.size c), (1, .int .i64 (a : Int)), (2, .int .i64 ((a + L : Nat) : Int)), (7, .int .i64 (i2 : Int)), (8, .int .i64 (5 - ((s + 1 : Nat) : Int)))]) (fun _ A' => Arr A' b (Go.Sort.swp k j (j - 1)) post ∧ Chg [b] w A') ?_ ?_
                · skip
                  have hAd : Arr A.drew b k post := Blk.drew hA
                  have hkl := us_len k
                  have cI := hAd.cell j (by omega) (0 + j) (by omega)
                  have cJ := hAd.cell (j - 1) (by omega) (0 + ((j : Int) - 1).toNat) (by omega)
                  refine W_drawS 18 (fun _ => True) rfl rfl ?_
                  (refine S_take 0 17 rfl (by kernel_rfl) (by repeat (first | exact retQ_p | apply seqQ_p | apply blkQ_p | apply rndQ_p | apply cutQ_p)) trivial ?_)
                  (refine Gt ?_)
                  (refine S_take 1 16 rfl (by kernel_rfl) (by repeat (first | exact retQ_p | apply seqQ_p | apply blkQ_p | apply rndQ_p | apply cutQ_p)) trivial ?_)
                  (refine Gt ?_)
                  (refine S_take 2 15 rfl (by kernel_rfl) (by repeat (first | exact retQ_p | apply seqQ_p | apply blkQ_p | apply rndQ_p | apply cutQ_p)) trivial ?_)
                  (refine Gt ?_)
                  (refine S_take 3 14 rfl (by kernel_rfl) (by repeat (first | exact retQ_p | apply seqQ_p | apply blkQ_p | apply rndQ_p | apply cutQ_p)) trivial ?_)
                  (refine Gt ?_)
                  (refine S_take 4 13 rfl (by kernel_rfl) (by repeat (first | exact retQ_p | apply seqQ_p | apply blkQ_p | apply rndQ_p | apply cutQ_p)) trivial ?_)
                  (refine Gt ?_)
                  (refine S_take 5 12 rfl (by kernel_rfl) (by repeat (first | exact retQ_p | apply seqQ_p | apply blkQ_p | apply rndQ_p | apply cutQ_p)) trivial ?_)
                  (refine Gt ?_)
                  (refine S_take 6 11 rfl (by kernel_rfl) (by repeat (first | exact retQ_p | apply seqQ_p | apply blkQ_p | apply rndQ_p | apply cutQ_p)) trivial ?_)
                  (refine Gt ?_)
                  (refine S_take 7 10 rfl (by kernel_rfl) (by repeat (first | exact retQ_p | apply seqQ_p | apply blkQ_p | apply rndQ_p | apply cutQ_p)) trivial ?_)
                  (refine Gt ?_)
                  (refine S_take 8 9 rfl (by kernel_rfl) (by repeat (first | exact retQ_p | apply seqQ_p | apply blkQ_p | apply rndQ_p | apply cutQ_p)) trivial ?_)
                  (apply Qst_pu; (focus (first | (apply P_idx1; (focus rfl); (focus rfl); (focus rfl); (focus rfl); (focus rfl); (focus omega)) | (apply P_idxu; (focus rfl); (focus rfl); (focus rfl); (focus rfl); (focus rfl); (focus omega); (focus omega)))); (focus rfl); (repeat' (first | (apply Qst_nil) | (apply rnQ_k; (focus (exact trivial))))))
                  (refine S_take 10 8 rfl (by kernel_rfl) (by repeat (first | exact retQ_p | apply seqQ_p | apply blkQ_p | apply rndQ_p | apply cutQ_p)) trivial ?_)
                  (refine Gt ?_)
                  (refine S_take 11 7 rfl (by kernel_rfl) (by repeat (first | exact retQ_p | apply seqQ_p | apply blkQ_p | apply rndQ_p | apply cutQ_p)) trivial ?_)
                  (refine Gt ?_)
                  (refine S_take 12 6 rfl (by kernel_rfl) (by repeat (first | exact retQ_p | apply seqQ_p | apply blkQ_p | apply rndQ_p | apply cutQ_p)) trivial ?_)
                  (apply Qst_pu; (focus (first | (apply P_idx1; (focus rfl); (focus rfl); (focus rfl); (focus rfl); (focus rfl); (focus omega)) | (apply P_idxu; (focus rfl); (focus rfl); (focus rfl); (focus rfl); (focus rfl); (focus omega); (focus omega)))); (focus rfl); (repeat' (first | (apply Qst_nil) | (apply rnQ_k; (focus (exact trivial))))))
                  refine S_any [9, 13] 5 rfl (by kernel_rfl) (all2 ?_ ?_)
                  all_goals (refine Gt ?_)
                  all_goals (refine ⟨trivial, ?_⟩)
                  rotate_left
                  (refine S_any [9] 4 rfl (by kernel_rfl) (all1 ?_))
                  rotate_left
                  (refine S_any [13] 4 rfl (by kernel_rfl) (all1 ?_))
                  all_goals (refine Gt ?_)
                  all_goals (refine ⟨trivial, ?_⟩)
                  all_goals (refine S_take 14 3 rfl (by kernel_rfl) (by repeat (first | exact retQ_p | apply seqQ_p | apply blkQ_p | apply rndQ_p | apply cutQ_p)) trivial ?_)
                  all_goals (apply Qst_pu; (focus (first | (apply P_idx1; (focus rfl); (focus rfl); (focus rfl); (focus rfl); (focus rfl); (focus omega)) | (apply P_idxu; (focus rfl); (focus rfl); (focus rfl); (focus rfl); (focus rfl); (focus omega); (focus omega)))); (focus rfl); (repeat' (first | (apply Qst_nil) | (apply rnQ_k; (focus (exact trivial))))))
                  all_goals (refine S_any [15] 2 rfl (by kernel_rfl) (all1 ?_))
                  all_goals (apply Lst_put (i := j) (hb := hAd); (focus rfl); (focus rfl); (focus rfl); (focus rfl); (focus omega); (focus (first | (rw [List.length_append]; omega) | (rw [List.length_set, List.length_append]; omega))))
                  all_goals (refine Gt ?_)
                  all_goals (refine ⟨trivial, ?_⟩)
                  all_goals (refine S_take 16 1 rfl (by kernel_rfl) (by repeat (first | exact retQ_p | apply seqQ_p | apply blkQ_p | apply rndQ_p | apply cutQ_p)) trivial ?_)
                  all_goals (apply Qst_pu; (focus (first | (apply P_idx1; (focus rfl); (focus rfl); (focus rfl); (focus rfl); (focus rfl); (focus omega)) | (apply P_idxu; (focus rfl); (focus rfl); (focus rfl); (focus rfl); (focus rfl); (focus omega); (focus omega)))); (focus rfl); (repeat' (first | (apply Qst_nil) | (apply rnQ_k; (focus (exact trivial))))))
                  all_goals (refine S_any [17] 0 rfl (by kernel_rfl) (all1 ?_))
                  all_goals (apply Lst_put (i := (j - 1)) (hb := Blk.put_same hAd.lt _ _); (focus rfl); (focus rfl); (focus rfl); (focus rfl); (focus omega); (focus (first | (rw [List.length_append]; omega) | (rw [List.length_set, List.length_append]; omega))))
                  all_goals (refine Gt ?_)
                  all_goals (refine ⟨trivial, ?_⟩)
                  all_goals (refine S_done (by kernel_rfl) ?_)
                  all_goals have hA2 : Arr ((A.drew.putObj b (.cells ((us k ++ post).set j (.int .u64 k[(j - 1)]!)).toArray 27)).putObj b (.cells (((us k ++ post).set j (.int .u64 k[(j - 1)]!)).set (j - 1) (.int .u64 k[j]!)).toArray 27)) b (Go.Sort.swp k j (j - 1)) post := by unfold Arr; rw [us_swp k post j (j - 1) (by omega) (by omega)]; exact Blk.put_same (by rw [World.putObj_size]; exact hAd.lt) _ _
                  all_goals have hc2 : Chg [b] w ((A.drew.putObj b (.cells ((us k ++ post).set j (.int .u64 k[(j - 1)]!)).toArray 27)).putObj b (.cells (((us k ++ post).set j (.int .u64 k[(j - 1)]!)).set (j - 1) (.int .u64 k[j]!)).toArray 27)) := (hc.drew.put (by simp) _).put (by simp) _
                  all_goals have hks2 := swp_size k j (j - 1)
                  all_goals generalize (A.drew.putObj b (.cells ((us k ++ post).set j (.int .u64 k[(j - 1)]!)).toArray 27)).putObj b (.cells (((us k ++ post).set j (.int .u64 k[(j - 1)]!)).set (j - 1) (.int .u64 k[j]!)).toArray 27) = A2 at *
                  all_goals (first | apply blkQ_n | skip)
                  all_goals exact cutQ_n () ⟨hA2, hc2⟩ ⟨rfl, rfl, rfl, rfl, rfl, rfl, trivial⟩
                clear hA hc
                rintro Jc ⟨⟩ A ⟨hA, hc⟩
                (refine Ga ?_)
                refine rndQ_n (α := Nat × Array Int) (j + 1, swp k j (j - 1)) ⟨by dsimp only; omega, hR, hks2.trans hks, hA, hc⟩ ⟨by show Value.int .i64 ((j : Int) + 1) = Value.int .i64 ((j + 1 : Nat) : Int); rw [Int.natCast_add]; rfl, rfl, rfl, rfl, rfl, rfl, trivial⟩ (by dsimp only; omega)
            · rw [if_neg hjb] at hR
              (refine Ga ?_)
              exact cutQ_n k ⟨hR, hks, hA, hc⟩ ⟨rfl, rfl, rfl, rfl, rfl, trivial⟩
          · rw [if_neg h3]
            (refine Ga ?_)
            exact cutQ_n k4 ⟨rfl, hks4, hA, hc⟩ ⟨rfl, rfl, rfl, rfl, rfl, trivial⟩
        clear hA hc
        rintro Jc k5 A ⟨hk5, hks5, hA, hc⟩
        rw [← hk5] at hG
        clear hk5
        (refine Ga ?_)
        refine rndQ_n (α := Nat × Nat × Array Int) (s, i2, k5) ⟨by dsimp only; omega, by dsimp only; omega, by dsimp only; omega, hG, hks5, hA, hc⟩ ⟨rfl, rfl, rfl, rfl, ?_, trivial⟩ (Nat.lt_succ_self _)
        show Value.int .i64 (5 - ((s + 1 : Nat) : Int) + 1) = Value.int .i64 (5 - (s : Int))
        congr 1
        omega
end So
namespace So
open Go Go.RowKit Sx
open Go.Sort (swp ltInt)
theorem Arr.chg {w w' : World} {b : Nat} {d : Array Int} {post : List Value} {X : List Nat} (h : Arr w b d post) (hc : Chg X w w') (hn : b ∉ X) : Arr w' b d post := hc.blk h hn
attribute [local irreducible] W Lst Qst Pu seqQ blkQ rndQ cutQ retQ Does Enters IntKind.wrap bits sb World.alloc World.putObj Blk
theorem c_order2 (b sb i j m c : Nat) (z : Int) (d : Array Int) (post : List Value) (hm : m = d.size) (hi : i < d.size) (hj : j < d.size) (hz : 0 ≤ z ∧ z ≤ 1000) (zi zj : Int) (ei : zi = i) (ej : zj = j) (w : World) (h : Arr w b d post) (hs : Blk w sb [.int .i64 z] 3) (hne : b ≠ sb) :
    Does Try.prog 94 #[.slice (some ⟨b, 0, none⟩) m c, .int .i64 zi, .int .i64 zj, .pointer (some ⟨sb, 0, none⟩)] w fun v w' => (∃ (x y : Nat) (z' : Int), v = .tuple #[.int .i64 (x : Int), .int .i64 (y : Int)] ∧ ((x = i ∧ y = j) ∨ (x = j ∧ y = i)) ∧ (z ≤ z' ∧ z' ≤ z + 1) ∧ Blk w' sb [.int .i64 z'] 3) ∧ Arr w' b d post ∧ Chg [sb] w w' := by
  subst ei ej
  refine Does_of (args := [.slice (some ⟨b, 0, none⟩) m c, .int .i64 (i : Int), .int .i64 (j : Int), .pointer (some ⟨sb, 0, none⟩)]) Try.func94 (by kernel_rfl) rfl rfl rfl rfl rfl ?_
  subst hm
  have hAd : Arr w.drew b d post := Blk.drew h
  have hsd : Blk w.drew sb [.int .i64 z] 3 := Blk.drew hs
  have hlt := hsd.lt
  have c1 := hAd.cell i hi (0 + i) (by omega)
  have c2 := hAd.cell j hj (0 + j) (by omega)
  have hless := fun A => c_Less d[j]! d[i]! A
  have hc : Chg [sb] w w.drew := (Chg.refl _ _).drew
  (refine Ga ?_)
  rcases hl : ltInt d[j]! d[i]! with _ | _
  · rw [hl] at hless
    refine W_draws (fun A' => A' = World.drew w) rfl (by kernel_rfl) rfl ?_
    (refine Qa ?_)
    apply Qst_call (.bool false)
    focus rfl
    focus rfl
    · rintro _ rfl
      exact (hless _).mono fun v w' h => ⟨h.1, h.2.symm⟩
    (refine Qa ?_)
    rintro A' rfl
    (refine Ga ?_)
    (apply retQ2; (focus rfl); (focus rfl))
    exact ⟨⟨i, j, z, rfl, .inl ⟨rfl, rfl⟩, ⟨Int.le_refl _, by omega⟩, hsd⟩, hAd, hc⟩
  · rw [hl] at hless
    refine W_draws (fun A' => A' = World.drew w) rfl (by kernel_rfl) rfl ?_
    (refine Qa ?_)
    apply Qst_call (.bool true)
    focus rfl
    focus rfl
    · rintro _ rfl
      exact (hless _).mono fun v w' h => ⟨h.1, h.2.symm⟩
    (refine Qa ?_)
    rintro A' rfl
    generalize w.drew = A at *
    (refine Ga ?_)
    (apply retQ2; (focus rfl); (focus rfl))
    exact ⟨⟨j, i, z + 1, rfl, .inr ⟨rfl, rfl⟩, ⟨by omega, Int.le_refl _⟩, Blk.put_same hlt _ _⟩, Arr.chg hAd ((Chg.refl [sb] A).put (by simp) _) (by simpa using hne), hc.put (by simp) _⟩
theorem c_median (b sb i j k m c : Nat) (z : Int) (d : Array Int) (post : List Value) (hm : m = d.size) (hi : i < d.size) (hj : j < d.size) (hk : k < d.size) (hz : 0 ≤ z ∧ z ≤ 900) (zi zj zk : Int) (ei : zi = i) (ej : zj = j) (ek : zk = k) (w : World) (h : Arr w b d post) (hs : Blk w sb [.int .i64 z] 3) (hne : b ≠ sb) :
    Does Try.prog 92 #[.slice (some ⟨b, 0, none⟩) m c, .int .i64 zi, .int .i64 zj, .int .i64 zk, .pointer (some ⟨sb, 0, none⟩)] w fun v w' => (∃ (x : Nat) (z' : Int), v = .int .i64 (x : Int) ∧ (x = i ∨ x = j ∨ x = k) ∧ (z ≤ z' ∧ z' ≤ z + 3) ∧ Blk w' sb [.int .i64 z'] 3) ∧ Arr w' b d post ∧ Chg [sb] w w' := by
  subst ei ej ek
  refine Does_of (args := [.slice (some ⟨b, 0, none⟩) m c, .int .i64 (i : Int), .int .i64 (j : Int), .int .i64 (k : Int), .pointer (some ⟨sb, 0, none⟩)]) Try.func92 (by kernel_rfl) rfl rfl rfl rfl rfl ?_
  (refine Ga ?_)
  (apply Lst_call; (focus rfl); (focus rfl))
  refine (c_order2 b sb i j m c z d post hm hi hj (by omega) _ _ rfl rfl w h hs hne).mono ?_
  rintro v w1 ⟨⟨x1, y1, z1, rfl, h1, hz1, hs1⟩, ha1, hc1⟩
  (refine Ga ?_)
  (apply Lst_call; (focus rfl); (focus rfl))
  refine (c_order2 b sb y1 k m c z1 d post hm (by omega) hk (by omega) _ _ rfl rfl w1 ha1 hs1 hne).mono ?_
  rintro v w2 ⟨⟨x2, y2, z2, rfl, h2, hz2, hs2⟩, ha2, hc2⟩
  (refine Ga ?_)
  (apply Lst_call; (focus rfl); (focus rfl))
  refine (c_order2 b sb x1 x2 m c z2 d post hm (by omega) (by omega) (by omega) _ _ rfl rfl w2 ha2 hs2 hne).mono ?_
  rintro v w3 ⟨⟨x3, y3, z3, rfl, h3, hz3, hs3⟩, ha3, hc3⟩
  (refine Ga ?_)
  (apply retQ1; (focus rfl))
  exact ⟨⟨y3, z3, rfl, by omega, by omega, hs3⟩, ha3, (hc1.trans hc2).trans hc3⟩
theorem c_medadj (b sb i m c : Nat) (z : Int) (d : Array Int) (post : List Value) (hm : m = d.size) (hi : i + 1 < d.size) (h1 : 1 ≤ i) (hz : 0 ≤ z ∧ z ≤ 900) (hsz : d.size < 1152921504606846976) (zi : Int) (ei : zi = i) (w : World) (h : Arr w b d post) (hs : Blk w sb [.int .i64 z] 3) (hne : b ≠ sb) :
    Does Try.prog 91 #[.slice (some ⟨b, 0, none⟩) m c, .int .i64 zi, .pointer (some ⟨sb, 0, none⟩)] w fun v w' => (∃ (x : Nat) (z' : Int), v = .int .i64 (x : Int) ∧ (i - 1 ≤ x ∧ x ≤ i + 1) ∧ (z ≤ z' ∧ z' ≤ z + 3) ∧ Blk w' sb [.int .i64 z'] 3) ∧ Arr w' b d post ∧ Chg [sb] w w' := by
  subst ei
  refine Does_of (args := [.slice (some ⟨b, 0, none⟩) m c, .int .i64 (i : Int), .pointer (some ⟨sb, 0, none⟩)]) Try.func91 (by kernel_rfl) rfl rfl rfl rfl rfl ?_
  (refine Ga ?_)
  (apply Lst_call; (focus rfl); (focus rfl))
  refine (c_median b sb (i - 1) i (i + 1) m c z d post hm (by omega) (by omega) (by omega) hz _ _ _ (by omega) rfl (by omega) w h hs hne).mono ?_
  rintro v w1 ⟨⟨x1, z1, rfl, h2, hz1, hs1⟩, ha1, hc1⟩
  (refine Ga ?_)
  (apply retQ1; (focus rfl))
  exact ⟨⟨x1, z1, rfl, by omega, hz1, hs1⟩, ha1, hc1⟩
theorem c_choose (b a L m c : Nat) (d : Array Int) (post : List Value) (hm : m = d.size) (hh : a + L ≤ d.size) (hL : 13 ≤ L) (hsz : d.size < 1152921504606846976) (w : World) (h : Arr w b d post) :
    Does Try.prog 80 #[.slice (some ⟨b, 0, none⟩) m c, .int .i64 (a : Int), .int .i64 ((a + L : Nat) : Int)] w fun v w' => (∃ (p : Nat) (hint : Int), v = .tuple #[.int .i64 (p : Int), .int .i64 hint] ∧ (a ≤ p ∧ p < a + L) ∧ (hint = 0 ∨ hint = 1 ∨ hint = 2)) ∧ Arr w' b d post ∧ Chg [b] w w' := by
  refine Does_of (args := [.slice (some ⟨b, 0, none⟩) m c, .int .i64 (a : Int), .int .i64 ((a + L : Nat) : Int)]) Try.func80 (by kernel_rfl) rfl rfl rfl rfl rfl ?_
  have hq : IntKind.i64.wrap ((((a + L : Nat) : Int) - (a : Int)).tdiv 4) = ((L / 4 : Nat) : Int) := by
    rw [show ((a + L : Nat) : Int) - (a : Int) = ((L : Nat) : Int) by omega]
    have e : ((L : Nat) : Int).tdiv 4 = ((L / 4 : Nat) : Int) := rfl
    rw [e]
    exact wi64 (by omega) (by omega)
  have hlt := h.lt
  have hs0 : Blk (w.alloc (.cells [.int .i64 0].toArray 3)) w.heap.size [.int .i64 0] 3 := Blk.newE rfl _ _
  have ha0 : Arr (w.alloc (.cells [.int .i64 0].toArray 3)) b d post := Blk.alloc h _
  have hc0 : Chg [b] w (w.alloc (.cells [.int .i64 0].toArray 3)) := (Chg.refl _ _).alloc _
  (refine Ga ?_)
  rw [hq]
  clear hq
  have hne : b ≠ w.heap.size := by omega
  generalize w.alloc (.cells [.int .i64 0].toArray 3) = A at *
  generalize hsb : w.heap.size = sb at *
  have hcs : ∀ {x y : World}, Chg [b] w x → Chg [sb] x y → Chg [b] w y := fun h1 h2 => ⟨h2.os.trans h1.os, h2.tape.trans h1.tape, h2.output.trans h1.output, Nat.le_trans h1.size h2.size, fun q hq hn => (h2.block q (Nat.lt_of_lt_of_le hq h1.size) (by simp; omega)).trans (h1.block q hq hn)⟩
  have key : ∀ (i j k : Nat) (zi zj zk z : Int) (A : World), zi = i → zj = j → zk = k → a ≤ i → i < a + L → a ≤ j → j < a + L → a ≤ k → k < a + L → 0 ≤ z → z ≤ 900 → Arr A b d post → Blk A sb [.int .i64 z] 3 → Chg [b] w A →
      Does Try.prog 92 #[.slice (some ⟨b, 0, none⟩) m c, .int .i64 zi, .int .i64 zj, .int .i64 zk, .pointer (some ⟨sb, 0, none⟩)] A fun v w' => ∃ (x : Nat) (z' : Int), v = .int .i64 (x : Int) ∧ (a ≤ x ∧ x < a + L) ∧ Blk w' sb [.int .i64 z'] 3 ∧ Arr w' b d post ∧ Chg [b] w w' := by
    intro i j k zi zj zk z A ei ej ek i1 i2 j1 j2 k1 k2 z1 z2 hA hS hC
    refine (c_median b sb i j k m c z d post hm (by omega) (by omega) (by omega) ⟨z1, z2⟩ _ _ _ ei ej ek A hA hS hne).mono ?_
    rintro v w1 ⟨⟨x1, z1, rfl, h2, hz1, hs1⟩, ha1, hc1⟩
    exact ⟨x1, z1, rfl, by omega, hs1, ha1, hcs hC hc1⟩
  by_cases h50 : 50 ≤ L
  · (refine Ga ?_)
    (apply Lst_call; (focus rfl); (focus rfl))
    refine (c_medadj b sb (a + L / 4 * 1) m c 0 d post hm (by omega) (by omega) (by omega) hsz _ (by omega) A ha0 hs0 hne).mono ?_
    rintro v w1 ⟨⟨x1, z1, rfl, h1, hz1, hs1⟩, ha1, hc1⟩
    have hc1 := hcs hc0 hc1
    (refine Ga ?_)
    (apply Lst_call; (focus rfl); (focus rfl))
    refine (c_medadj b sb (a + L / 4 * 2) m c z1 d post hm (by omega) (by omega) (by omega) hsz _ (by omega) w1 ha1 hs1 hne).mono ?_
    rintro v w2 ⟨⟨x2, z2, rfl, h2, hz2, hs2⟩, ha2, hc2⟩
    have hc2 := hcs hc1 hc2
    (refine Ga ?_)
    (apply Lst_call; (focus rfl); (focus rfl))
    refine (c_medadj b sb (a + L / 4 * 3) m c z2 d post hm (by omega) (by omega) (by omega) hsz _ (by omega) w2 ha2 hs2 hne).mono ?_
    rintro v w3 ⟨⟨x3, z3, rfl, h3, hz3, hs3⟩, ha3, hc3⟩
    have hc3 := hcs hc2 hc3
    (refine Ga ?_)
    (apply Lst_call; (focus rfl); (focus rfl))
    refine (key x1 x2 x3 _ _ _ z3 w3 rfl rfl rfl (by omega) (by omega) (by omega) (by omega) (by omega) (by omega) (by omega) (by omega) ha3 hs3 hc3).mono ?_
    rintro v w4 ⟨x, z, rfl, hx, hs4, ha4, hc4⟩
    (refine Ga ?_)
    by_cases hz0 : z = 0
    · (refine Ga ?_)
      (apply retQ2; (focus rfl); (focus rfl))
      exact ⟨⟨x, 1, rfl, hx, .inr (.inl rfl)⟩, ha4, hc4⟩
    · by_cases hz12 : z = 12
      · (refine Ga ?_)
        (apply retQ2; (focus rfl); (focus rfl))
        exact ⟨⟨x, 2, rfl, hx, .inr (.inr rfl)⟩, ha4, hc4⟩
      · (refine Ga ?_)
        (apply retQ2; (focus rfl); (focus rfl))
        exact ⟨⟨x, 0, rfl, hx, .inl rfl⟩, ha4, hc4⟩
  · (refine Ga ?_)
    (apply Lst_call; (focus rfl); (focus rfl))
    refine (key (a + L / 4 * 1) (a + L / 4 * 2) (a + L / 4 * 3) _ _ _ 0 A (by omega) (by omega) (by omega) (by omega) (by omega) (by omega) (by omega) (by omega) (by omega) (by omega) (by omega) ha0 hs0 hc0).mono ?_
    rintro v w4 ⟨x, z, rfl, hx, hs4, ha4, hc4⟩
    (refine Ga ?_)
    by_cases hz0 : z = 0
    · (refine Ga ?_)
      (apply retQ2; (focus rfl); (focus rfl))
      exact ⟨⟨x, 1, rfl, hx, .inr (.inl rfl)⟩, ha4, hc4⟩
    · by_cases hz12 : z = 12
      · (refine Ga ?_)
        (apply retQ2; (focus rfl); (focus rfl))
        exact ⟨⟨x, 2, rfl, hx, .inr (.inr rfl)⟩, ha4, hc4⟩
      · (refine Ga ?_)
        (apply retQ2; (focus rfl); (focus rfl))
        exact ⟨⟨x, 0, rfl, hx, .inl rfl⟩, ha4, hc4⟩
end So
end Go.Proofs.Ytoljcnlmockpcaa
