/- The reference: farther, within, among. -/
import Derived.Test.YtmammcgdjjldbaaSqRb
namespace Go.Proofs.Ytmammcgdjjldbaa
set_option maxRecDepth 100000
namespace Sq
open Go Go.RowKit Sx Tl
variable {w : World} {p : Nat} {F : Nat → Prop} {N rt ord : List Id} {ρ : Id → Rec}
def rfar (ord : List Id) (u : Un) : Int := if u.r = Fo.none' then (ord.length : Int) + 1 else findV ord ord u.r
def fartherV (ord : List Id) (a b : Un) : Bool := if rfar ord a = rfar ord b then Fo.lt a.id b.id else decide (rfar ord b < rfar ord a)
theorem rcs_sub {N : List Id} {r : Rec} {b : Bool} {sl sr : Value} {w : World} {g o : Nat} (h : ∀ j u, (rcs N r b sl sr)[j]? = some u → w.cell? ⟨g, o + j, none⟩ = some u) : (∀ A, Grown w A → ∀ j u, (idcs r.u.id)[j]? = some u → A.cell? ⟨g, o + j, none⟩ = some u) ∧ (∀ A, Grown w A → ∀ j u, (idcs r.u.l)[j]? = some u → A.cell? ⟨g, o + 2 + j, none⟩ = some u) ∧ (∀ A, Grown w A → ∀ j u, (idcs r.u.r)[j]? = some u → A.cell? ⟨g, o + 4 + j, none⟩ = some u) :=
  ⟨fun _ hA => cells2 (cell_below hA (h 0 _ rfl)) (cell_below hA (h 1 _ rfl)) rfl, fun _ hA => cells2 (cell_below hA (h 2 _ rfl)) (cell_below hA (h 3 _ rfl)) rfl, fun _ hA => cells2 (cell_below hA (h 4 _ rfl)) (cell_below hA (h 5 _ rfl)) rfl⟩
theorem r_Less (a b : Id) (w : World) : Does Try.prog 41 #[idv a, idv b] w fun v w' => v = .bool (Fo.lt a b) ∧ Below w.heap.size w w' :=
  (Ids.c_RLess a.1 a.2 b.1 b.2 w).mono fun v w' h => ⟨h.1.trans (congrArg Value.bool (by
    unfold Fo.lt
    rw [Bool.eq_iff_iff]
    simp
    omega)), h.2⟩
theorem r_Right (k : Id) (w : World) : Does Try.prog 23 #[idv k] w fun v w' => v = .bool (Fo.rightId k) ∧ Below w.heap.size w w' :=
  (Ids.c_RRight k.1 k.2 w).mono fun v w' h => ⟨h.1.trans (congrArg Value.bool (by
    unfold Fo.rightId Fo.num
    rw [Bool.eq_iff_iff]
    simp
    omega)), h.2⟩
attribute [local irreducible] W Lst Qst Pu seqQ blkQ rndQ cutQ retQ Does Enters IntKind.wrap bits sb World.alloc World.putObj Blk
theorem c_farther (a b : Id) (ha : a ∈ N) (hb : b ∈ N) (hn : N.Nodup) (hu : ∀ j ∈ N, (ρ j).u.id = j) (hlN : N.length ≤ 1000000000) (ho : ∀ j ∈ ord, j ∈ N) (hnd : ord.Nodup) (hlen : ord.length ≤ 1000000000) (h : RfAt w p F N ρ rt ord) :
    Does Try.prog 53 #[.pointer (some ⟨p, 0, none⟩), .int .i64 (ix N a), .int .i64 (ix N b)] w fun v w' => v = .bool (fartherV ord (ρ a).u (ρ b).u) ∧ Below w.heap.size w w' := by
  refine Does_of (args := [.pointer (some ⟨p, 0, none⟩), .int .i64 (ix N a), .int .i64 (ix N b)]) Try.func53 (by kernel_rfl) rfl rfl rfl rfl rfl ?_
  obtain ⟨va, c, a1, c1, a2, c2, hS, hc, _, _, hO, hN⟩ := h.view
  obtain ⟨g, ab, ab1, ad1, ab2, ad2, rfl, hca, _⟩ := hN a ha
  obtain ⟨g', bb, bb1, bd1, bb2, bd2, hge, hcb, _⟩ := hN b hb
  cases hge
  have hfa := findV_le (D := ord) hlen (ρ a).u.r
  have hfb := findV_le (D := ord) hlen (ρ b).u.r
  have hla := List.idxOf_lt_length_iff.2 ha
  have hlb := List.idxOf_lt_length_iff.2 hb
  have ltp := hS.lt
  unfold ix
  (refine Ga ?_)
  refine W_draws (Grown _) rfl (by kernel_rfl) (grown_start _) ?_
  (refine Qb ?_)
  intro w1 hb1
  apply seqQ_n
  apply W_seq
  refine W_cutS (α := Unit) (fun _ => [(0, .pointer (some ⟨p, 0, none⟩)), (1, .int .i64 (N.idxOf a : Int)), (2, .int .i64 (N.idxOf b : Int)), (7, .int .i64 (rfar ord (ρ a).u)), (8, .int .i64 ((ord.length : Int) + 1))]) (fun _ A => Grown w A) ?_ ?_
  · obtain ⟨A, rfl⟩ : ∃ A, A = w1 := ⟨_, rfl⟩
    have hbA : Grown w A := hb1
    have hS1 := hS.below hbA hS.lt
    have hlp1 := hS1.lt
    have hA := h.grown hbA
    (refine Ga ?_)
    apply Lst_pu
    · apply P_idxn (j := N.idxOf a)
      focus rfl
      focus rfl
      focus rfl
      focus rfl
      focus rfl
      focus exact hla
    focus rfl
    (refine Ga ?_)
    apply Lst_loadS' (cs := [.int .u64 ((ρ a).u.r.1 : Int), .int .u64 ((ρ a).u.r.2 : Int)])
    focus rfl
    focus rfl
    focus rfl
    focus rfl
    focus rfl
    focus exact (rcs_sub hca).2.2 A hbA
    focus rfl
    (refine Ga ?_)
    have hbX : Below A.heap.size A ((A.alloc (.cells [.int .u64 0, .int .u64 0].toArray 32)).putObj A.heap.size (.cells [.int .u64 ((ρ a).u.r.1 : Int), .int .u64 ((ρ a).u.r.2 : Int)].toArray 32)) := Bel
    have hX := hA.grown hbX
    have bX := hbA.trans (hbX.mono hbA.size)
    by_cases hr : (ρ a).u.r = Fo.none'
    · have e0 : rfar ord (ρ a).u = (ord.length : Int) + 1 := if_pos hr
      have hid : Eqv Try.prog 3 32 (idv (ρ a).u.r) (idv (0, 0)) true := by
        have := id_eq (ρ a).u.r (0, 0)
        rwa [decide_eq_true (show (ρ a).u.r = (0, 0) from hr)] at this
      apply Lst_pu
      · apply P_neA
        focus rfl
        focus rfl
        focus kernel_rfl
        focus exact hid
        focus rfl
      focus rfl
      (refine Ga ?_)
      exact cutQ_n () bX ⟨rfl, rfl, rfl, congrArg (Value.int .i64) e0.symm, rfl, trivial⟩
    · have e0 : rfar ord (ρ a).u = findV ord ord (ρ a).u.r := if_neg hr
      have hid : Eqv Try.prog 3 32 (idv (ρ a).u.r) (idv (0, 0)) false := by
        have := id_eq (ρ a).u.r (0, 0)
        rwa [decide_eq_false (show ¬ (ρ a).u.r = (0, 0) from hr)] at this
      apply Lst_pu
      · apply P_neA
        focus rfl
        focus rfl
        focus kernel_rfl
        focus exact hid
        focus rfl
      focus rfl
      (refine Ga ?_)
      (apply Lst_call; (focus rfl); (focus rfl))
      refine (c_rFind (ρ a).u.r hn hu hlN ho hnd hlen hX).mono ?_
      rintro v w2 ⟨rfl, hb2⟩
      (refine Ga ?_)
      exact cutQ_n () (bX.trans (hb2.mono bX.size)) ⟨rfl, rfl, rfl, congrArg (Value.int .i64) e0.symm, rfl, trivial⟩
  · intro J _ A0 hbA0
    apply W_seq
    refine W_cutS (α := Unit) (fun _ => [(0, .pointer (some ⟨p, 0, none⟩)), (1, .int .i64 (N.idxOf a : Int)), (2, .int .i64 (N.idxOf b : Int)), (7, .int .i64 (rfar ord (ρ a).u)), (8, .int .i64 (rfar ord (ρ b).u))]) (fun _ A => Grown w A) ?_ ?_
    · obtain ⟨A, hAe⟩ : ∃ A, A0 = A := ⟨_, rfl⟩
      rw [hAe] at hbA0 ⊢
      have hbA := hbA0
      have hS1 := hS.below hbA hS.lt
      have hlp1 := hS1.lt
      have hA := h.grown hbA
      (refine Ga ?_)
      apply Lst_pu
      · apply P_idxn (j := N.idxOf b)
        focus rfl
        focus rfl
        focus rfl
        focus rfl
        focus rfl
        focus exact hlb
      focus rfl
      (refine Ga ?_)
      apply Lst_loadS' (cs := [.int .u64 ((ρ b).u.r.1 : Int), .int .u64 ((ρ b).u.r.2 : Int)])
      focus rfl
      focus rfl
      focus rfl
      focus rfl
      focus rfl
      focus exact (rcs_sub hcb).2.2 A hbA
      focus rfl
      (refine Ga ?_)
      have hbX : Below A.heap.size A ((A.alloc (.cells [.int .u64 0, .int .u64 0].toArray 32)).putObj A.heap.size (.cells [.int .u64 ((ρ b).u.r.1 : Int), .int .u64 ((ρ b).u.r.2 : Int)].toArray 32)) := Bel
      have hX := hA.grown hbX
      have bX := hbA.trans (hbX.mono hbA.size)
      by_cases hr : (ρ b).u.r = Fo.none'
      · have e0 : rfar ord (ρ b).u = (ord.length : Int) + 1 := if_pos hr
        have hid : Eqv Try.prog 3 32 (idv (ρ b).u.r) (idv (0, 0)) true := by
          have := id_eq (ρ b).u.r (0, 0)
          rwa [decide_eq_true (show (ρ b).u.r = (0, 0) from hr)] at this
        apply Lst_pu
        · apply P_neA
          focus rfl
          focus rfl
          focus kernel_rfl
          focus exact hid
          focus rfl
        focus rfl
        (refine Ga ?_)
        exact cutQ_n () bX ⟨rfl, rfl, rfl, rfl, congrArg (Value.int .i64) e0.symm, trivial⟩
      · have e0 : rfar ord (ρ b).u = findV ord ord (ρ b).u.r := if_neg hr
        have hid : Eqv Try.prog 3 32 (idv (ρ b).u.r) (idv (0, 0)) false := by
          have := id_eq (ρ b).u.r (0, 0)
          rwa [decide_eq_false (show ¬ (ρ b).u.r = (0, 0) from hr)] at this
        apply Lst_pu
        · apply P_neA
          focus rfl
          focus rfl
          focus kernel_rfl
          focus exact hid
          focus rfl
        focus rfl
        (refine Ga ?_)
        (apply Lst_call; (focus rfl); (focus rfl))
        refine (c_rFind (ρ b).u.r hn hu hlN ho hnd hlen hX).mono ?_
        rintro v w2 ⟨rfl, hb2⟩
        (refine Ga ?_)
        exact cutQ_n () (bX.trans (hb2.mono bX.size)) ⟨rfl, rfl, rfl, rfl, congrArg (Value.int .i64) e0.symm, trivial⟩
    · intro J _ A hbA
      have hS1 := hS.below hbA hS.lt
      have hlp1 := hS1.lt
      by_cases hxy : rfar ord (ρ a).u = rfar ord (ρ b).u
      · have e0 : fartherV ord (ρ a).u (ρ b).u = Fo.lt (ρ a).u.id (ρ b).u.id := if_pos hxy
        (refine Ga ?_)
        refine W_draw 18 (Grown A) rfl (by kernel_rfl) (grown_start A) ?_
        (refine Qb ?_)
        apply Qst_pu
        · apply P_idxn (j := N.idxOf a)
          focus rfl
          focus rfl
          focus rfl
          focus rfl
          focus rfl
          focus exact hla
        focus rfl
        (refine Qb ?_)
        apply Qst_loadS (cs := idcs (ρ a).u.id)
        focus rfl
        focus rfl
        focus rfl
        focus rfl
        focus rfl
        focus exact fun A9 hA9 => (rcs_sub hca).1 A9 (hbA.trans (hA9.mono hbA.size))
        focus rfl
        (refine Qb ?_)
        apply Qst_pu
        · apply P_idxn (j := N.idxOf b)
          focus rfl
          focus rfl
          focus rfl
          focus rfl
          focus rfl
          focus exact hlb
        focus rfl
        (refine Qb ?_)
        apply Qst_loadS (cs := idcs (ρ b).u.id)
        focus rfl
        focus rfl
        focus rfl
        focus rfl
        focus rfl
        focus exact fun A9 hA9 => (rcs_sub hcb).1 A9 (hbA.trans (hA9.mono hbA.size))
        focus rfl
        (refine Qb ?_)
        intro w2 hb2
        (refine Ga ?_)
        (apply Lst_call; (focus rfl); (focus rfl))
        refine (r_Less (ρ a).u.id (ρ b).u.id w2).mono ?_
        rintro v w3 ⟨rfl, hb3⟩
        (refine Ga ?_)
        apply retQ1
        focus rfl
        exact ⟨congrArg Value.bool e0.symm, hbA.trans ((hb2.trans (hb3.mono hb2.size)).mono hbA.size)⟩
      · by_cases hlt : rfar ord (ρ b).u < rfar ord (ρ a).u
        · have e0 : fartherV ord (ρ a).u (ρ b).u = true := (if_neg hxy).trans (decide_eq_true hlt)
          (refine Ga ?_)
          apply retQ1
          focus rfl
          exact ⟨congrArg Value.bool e0.symm, hbA⟩
        · have e0 : fartherV ord (ρ a).u (ρ b).u = false := (if_neg hxy).trans (decide_eq_false hlt)
          (refine Ga ?_)
          apply retQ1
          focus rfl
          exact ⟨congrArg Value.bool e0.symm, hbA⟩
end Sq
end Go.Proofs.Ytmammcgdjjldbaa
