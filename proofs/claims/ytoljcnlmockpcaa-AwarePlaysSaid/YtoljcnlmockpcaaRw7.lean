/- The document's awareness: Seen; quirehelp.Presents. -/
import Derived.Test.YtoljcnlmockpcaaRwC
namespace Go.Proofs.Ytoljcnlmockpcaa
set_option maxRecDepth 100000
namespace Aw
open Go Go.RowKit Sx Wire
open So (cutQ_p rndQ_p)
attribute [local irreducible] W Lst Qst Pu seqQ blkQ rndQ cutQ retQ Does Enters IntKind.wrap bits sb World.alloc World.putObj Blk
set_option maxHeartbeats 2000000 in
theorem r_Seen (p : Nat) (a : Awr) (hl : a.es.length ≤ 100000000) (w : World) (h : RAt w p a) : Does Try.prog 33 #[.pointer (some ⟨p, 0, none⟩)] w fun v w' =>
    Prs w' v a.seen ∧ RAt w' p a ∧ Below w.heap.size w w' := by
  refine Does_of (args := [.pointer (some ⟨p, 0, none⟩)]) Try.func33 (by kernel_rfl) rfl rfl rfl rfl rfl ?_
  obtain ⟨x, cp, hblk, hrows, hcp, hsrt⟩ := id h
  (refine Ga ?_)
  refine W_loop (α := Nat × Value) (fun y => [(0, .pointer (some ⟨p, 0, none⟩)), (3, y.2), (4, .int .i64 (y.1 : Int))])
    (fun y A => y.1 ≤ a.es.length ∧ Below w.heap.size w A ∧ A.ownsRow w.heap.size 37 4 y.2 ((a.es.take y.1).filter a.here).length ((((a.es.take y.1).filter a.here).map fun e => pcs e.p).flatten)) (fun y _ => a.es.length - y.1) (0, .slice none 0 0)
    ⟨Nat.zero_le _, Below.refl _ _, World.ownsRow_nil _ _ _ _⟩ ⟨rfl, rfl, rfl, trivial⟩ ?_
  rintro J ⟨i, out⟩ A ⟨hi, hbA, ho⟩
  dsimp only at hi ho ⊢
  have sA := hbA.size
  have hbk := hblk.below hbA hblk.lt
  have hrA := hrows.below hbA (Nat.le_refl _)
  have hinc : Value.int .i64 ((i : Int) + 1) = Value.int .i64 ((i + 1 : Nat) : Int) := by
    rw [Int.natCast_add]
    rfl
  by_cases hil : i < a.es.length
  · obtain ⟨b, off, rfl, hbl, hcells⟩ := hrA.at (i := i) (by rw [List.length_map]; exact hil)
    rw [List.getElem_map] at hcells
    have hft := filt_take (f := a.here) hil
    have hfl : ((a.es.take i).filter a.here).length ≤ 100000000 := Nat.le_trans (List.length_filter_le _ _) (by rw [List.length_take]; omega)
    generalize a.es[i] = e at *
    generalize hL : (a.es.take i).filter a.here = L at *
    obtain ⟨o1, o2, o3, rfl⟩ := own_slice ho
    have hc3 : A.drew.cell? ⟨b, off + i * 5 + 3, none⟩ = some (.bool e.p.g) := hcells 3 _ rfl
    have hc4 : A.drew.cell? ⟨b, off + i * 5 + 4, none⟩ = some (.int .u64 e.t) := hcells 4 _ rfl
    have hbk' := hbk.drew
    have hskip : a.here e = false → (i + 1 ≤ a.es.length ∧ Below w.heap.size w A.drew ∧ A.drew.ownsRow w.heap.size 37 4 (.slice o1 o2 o3) ((a.es.take (i + 1)).filter a.here).length ((((a.es.take (i + 1)).filter a.here).map fun e => pcs e.p).flatten)) := by
      intro hh
      rw [hft, if_neg (by rw [hh]; exact Bool.false_ne_true), List.append_nil]
      exact ⟨by omega, Below.drew hbA, own_drew ho⟩
    (refine Ga ?_)
    cases hg : e.p.g with
    | true =>
      rw [hg] at hc3
      refine W_draws (fun A' => A' = World.drew _) rfl (by kernel_rfl) rfl ?_
      (refine Qf ?_)
      apply Qst_pu
      · apply P_idx (sz := 5)
        focus rfl
        focus rfl
        focus rfl
        focus rfl
        focus rfl
        focus omega
        focus omega
      focus rfl
      rw [Int.toNat_natCast]
      (refine Qf ?_)
      apply Qst_loadc
      focus rfl
      focus rfl
      focus rfl
      focus exact fun A9 hA9 => by subst hA9; exact hc3
      focus rfl
      (refine Qf ?_)
      rintro _ rfl
      (refine Ga ?_)
      exact rndQ_n (α := Nat × Value) (i + 1, .slice o1 o2 o3) (hskip (by unfold Awr.here; rw [hg]; rfl)) ⟨rfl, rfl, hinc, trivial⟩ (by dsimp only; omega)
    | false =>
      rw [hg] at hc3
      obtain ⟨D, hD⟩ : ∃ D, IntKind.u64.wrap (a.now - e.t) = D := ⟨_, rfl⟩
      have hD' : arith .sub .u64 a.now e.t = D := hD
      by_cases hlt2 : D < a.last
      · have hh : a.here e = true := by unfold Awr.here; rw [hg, hD, decide_eq_true hlt2]; rfl
        refine W_draws (fun A' => A' = World.drew _) rfl (by kernel_rfl) rfl ?_
        (refine Qf ?_)
        apply Qst_pu
        · apply P_idx (sz := 5)
          focus rfl
          focus rfl
          focus rfl
          focus rfl
          focus rfl
          focus omega
          focus omega
        focus rfl
        rw [Int.toNat_natCast]
        (refine Qf ?_)
        apply Qst_loadc
        focus rfl
        focus rfl
        focus rfl
        focus exact fun A9 hA9 => by subst hA9; exact hc3
        focus rfl
        (refine Qf ?_)
        apply Qst_pu
        · apply P_idx (sz := 5)
          focus rfl
          focus rfl
          focus rfl
          focus rfl
          focus rfl
          focus omega
          focus omega
        focus rfl
        rw [Int.toNat_natCast]
        (refine Qf ?_)
        apply Qst_loadc
        focus rfl
        focus rfl
        focus rfl
        focus exact fun A9 hA9 => by subst hA9; exact hc4
        focus rfl
        (refine Qf ?_)
        rintro _ rfl
        have ho2 := own_drew ho
        have hbA2 := Below.drew hbA
        have hcp4 : ∀ (j : Nat) (u : Value), (pcs e.p)[j]? = some u → A.drew.cell? ⟨b, off + i * 5 + j, none⟩ = some u := fun j u hu => hcells j u (by
          have hj : j < 4 := (List.getElem?_eq_some_iff.1 hu).1
          rw [← hu]
          match j, hj with
          | 0, _ => rfl
          | 1, _ => rfl
          | 2, _ => rfl
          | 3, _ => rfl)
        have hs2 : A.drew.heap.size = A.heap.size := rfl
        generalize A.drew = Y at *
        (refine Ga ?_)
        apply Lst_pu
        · apply P_idx (sz := 5)
          focus rfl
          focus rfl
          focus rfl
          focus rfl
          focus rfl
          focus omega
          focus omega
        focus rfl
        rw [Int.toNat_natCast]
        (refine Ga ?_)
        apply Lst_loadS' (hc := hcp4)
        focus rfl
        focus rfl
        focus rfl
        focus rfl
        focus rfl
        focus rfl
        unfold pcs
        (refine Ga ?_)
        apply Lst_push (hown := ho2) (bytes := 40)
        ((focus constructor); (focus rfl); (focus rfl); (focus rfl); (focus rfl); (focus rfl); (focus rfl); (focus rfl); (focus rfl); (focus rfl); (focus rfl); (focus simp [Value.oneCell']); (focus rfl); (focus rfl); (focus rfl); (focus rfl); (focus omega); (focus omega); (focus omega))
        intro v' A2 ho3 hgr _
        have hb2' := Sx.Below.own hbA2 ho2 hgr (Nat.le_refl _) (by omega)
        obtain ⟨u1, u2, u3, rfl⟩ := own_slice ho3
        have hz : A2.ownsRow w.heap.size 37 4 (.slice u1 u2 u3) ((a.es.take (i + 1)).filter a.here).length ((((a.es.take (i + 1)).filter a.here).map fun e => pcs e.p).flatten) := by
          rw [hft, if_pos hh, List.map_append, List.flatten_append, List.length_append, List.map_singleton, List.flatten_singleton]
          exact ho3
        (refine Ga ?_)
        exact rndQ_n (α := Nat × Value) (i + 1, .slice u1 u2 u3) ⟨by dsimp only; omega, hb2', hz⟩ ⟨rfl, rfl, hinc, trivial⟩ (by dsimp only; omega)
      · refine W_draws (fun A' => A' = World.drew _) rfl (by kernel_rfl) rfl ?_
        (refine Qf ?_)
        apply Qst_pu
        · apply P_idx (sz := 5)
          focus rfl
          focus rfl
          focus rfl
          focus rfl
          focus rfl
          focus omega
          focus omega
        focus rfl
        rw [Int.toNat_natCast]
        (refine Qf ?_)
        apply Qst_loadc
        focus rfl
        focus rfl
        focus rfl
        focus exact fun A9 hA9 => by subst hA9; exact hc3
        focus rfl
        (refine Qf ?_)
        apply Qst_pu
        · apply P_idx (sz := 5)
          focus rfl
          focus rfl
          focus rfl
          focus rfl
          focus rfl
          focus omega
          focus omega
        focus rfl
        rw [Int.toNat_natCast]
        (refine Qf ?_)
        apply Qst_loadc
        focus rfl
        focus rfl
        focus rfl
        focus exact fun A9 hA9 => by subst hA9; exact hc4
        focus rfl
        (refine Qf ?_)
        rintro _ rfl
        (refine Ga ?_)
        exact rndQ_n (α := Nat × Value) (i + 1, .slice o1 o2 o3) (hskip (by unfold Awr.here; rw [hg, hD, decide_eq_false hlt2]; rfl)) ⟨rfl, rfl, hinc, trivial⟩ (by dsimp only; omega)
  · obtain rfl : i = a.es.length := by omega
    rw [List.take_of_length_le (Nat.le_refl _)] at ho
    have hP : Prs A out a.seen := by
      unfold Prs Awr.seen
      rw [List.map_map]
      exact SRows.of_own ho (fun l hl => by
        obtain ⟨e, _, rfl⟩ := List.mem_map.1 hl
        rfl) (by omega)
    obtain ⟨o1, o2, o3, rfl⟩ := own_slice ho
    (refine Ga ?_)
    (apply retQ1; (focus rfl))
    exact ⟨hP, h.below hbA, hbA⟩
set_option maxHeartbeats 2000000 in
theorem h_PresentsT (u v : Value) (l : List Pr) (hl : l.length ≤ 9223372036854775807) (w : World) (hu : Prs w u l) (hv : Prs w v l) : Does Try.prog 32 #[u, v] w fun r w' => r = .bool true ∧ Below w.heap.size w w' := by
  obtain ⟨a1, c1, rfl⟩ := hu.form
  obtain ⟨a2, c2, rfl⟩ := hv.form
  refine Does_of (args := [.slice a1 l.length c1, .slice a2 l.length c2]) Try.func32 (by kernel_rfl) rfl rfl rfl rfl rfl ?_
  (refine Ga ?_)
  refine W_loop (α := Nat) (fun y => [(0, .slice a1 l.length c1), (1, .slice a2 l.length c2), (5, .int .i64 (y : Int))])
    (fun y A => y ≤ l.length ∧ Below w.heap.size w A) (fun y _ => l.length - y) 0
    ⟨Nat.zero_le _, Below.refl _ _⟩ ⟨rfl, rfl, rfl, trivial⟩ ?_
  rintro J i A ⟨hi, hbA⟩
  have huA := hu.below hbA (Nat.le_refl _)
  have hvA := hv.below hbA (Nat.le_refl _)
  by_cases hil : i < l.length
  · obtain ⟨b, off, rfl, hbl, hcu⟩ := huA.at hil
    obtain ⟨b', off', rfl, hbl', hcv⟩ := hvA.at hil
    generalize l[i] = q at *
    (refine Ga ?_)
    refine W_draws (fun A' => A' = World.drew _) rfl (by kernel_rfl) rfl ?_
    (refine Qf ?_)
    apply Qst_pu
    · apply P_idx (sz := 4)
      focus rfl
      focus rfl
      focus rfl
      focus rfl
      focus rfl
      focus omega
      focus omega
    focus rfl
    rw [Int.toNat_natCast]
    (refine Qf ?_)
    apply Qst_loadS (cs := pcs q) (hc := fun A9 hA9 j u hu => by subst hA9; exact hcu j u hu)
    focus rfl
    focus rfl
    focus rfl
    focus rfl
    focus rfl
    focus rfl
    (refine Qf ?_)
    apply Qst_pu
    · apply P_idx (sz := 4)
      focus rfl
      focus rfl
      focus rfl
      focus rfl
      focus rfl
      focus omega
      focus omega
    focus rfl
    rw [Int.toNat_natCast]
    (refine Qf ?_)
    apply Qst_loadS (cs := pcs q) (hc := fun A9 hA9 j u hu => by subst hA9; exact hcv j u hu)
    focus rfl
    focus rfl
    focus rfl
    focus rfl
    focus rfl
    focus rfl
    unfold pcs
    (refine Qf ?_)
    rintro _ rfl
    (refine Ga ?_)
    refine rndQ_n (i + 1) ⟨by omega, Below.drew hbA⟩ ⟨rfl, rfl, ?_, trivial⟩ (by omega)
    show Value.int .i64 ((i : Int) + 1) = Value.int .i64 ((i + 1 : Nat) : Int)
    rw [Int.natCast_add]
    rfl
  · obtain rfl : i = l.length := by omega
    (refine Ga ?_)
    (apply retQ1; (focus rfl))
    exact ⟨rfl, hbA⟩
end Aw
end Go.Proofs.Ytoljcnlmockpcaa
