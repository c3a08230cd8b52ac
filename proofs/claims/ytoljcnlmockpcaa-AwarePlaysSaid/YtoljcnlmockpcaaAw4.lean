/- Package aware: Seen. -/
import Derived.Test.YtoljcnlmockpcaaAw3
namespace Go.Proofs.Ytoljcnlmockpcaa
set_option maxRecDepth 100000
namespace Aw
open Go Go.RowKit Sx Wire
theorem filt_take {f : En → Bool} {l : List En} {i : Nat} (h : i < l.length) : (l.take (i + 1)).filter f = (l.take i).filter f ++ (if f l[i] then [l[i]] else []) := by
  rw [List.take_succ_eq_append_getElem h, List.filter_append]
  congr 1
  by_cases hf : f l[i] = true
  · rw [if_pos hf, List.filter_cons_of_pos hf]
    rfl
  · rw [if_neg hf, List.filter_cons_of_neg hf]
    rfl
attribute [local irreducible] W Lst Qst Pu seqQ blkQ rndQ cutQ retQ Does Enters IntKind.wrap bits sb World.alloc World.putObj Blk
theorem c_Seen (p mb : Nat) (a : Awr) (hl : a.es.length ≤ 100000000) (w : World) (h : AwAt w p mb a) : Does Try.prog 14 #[.pointer (some ⟨p, 0, none⟩)] w fun v w' =>
    Prs w' v a.seen ∧ Below w.heap.size w w' := by
  refine Does_of (args := [.pointer (some ⟨p, 0, none⟩)]) Try.func14 (by kernel_rfl) rfl rfl rfl rfl rfl ?_
  (refine Ga ?_)
  (apply Lst_call; (focus rfl); (focus rfl))
  refine (c_known p mb a hl w h).mono ?_
  rintro v w1 ⟨hown, hb1⟩
  have hks : SRows w1 5 v (a.es.map ecs) := SRows.of_own hown (fun l hl => by
    obtain ⟨e, _, rfl⟩ := List.mem_map.1 hl
    rfl) (by omega)
  obtain ⟨v1, v2, rfl⟩ := hks.form
  rw [List.length_map] at *
  clear hown
  (refine Ga ?_)
  refine W_loop (α := Nat × Value) (fun x => [(0, .pointer (some ⟨p, 0, none⟩)), (3, x.2), (7, .slice v1 a.es.length v2), (8, .int .i64 (a.es.length : Int)), (9, .int .i64 (x.1 : Int))])
    (fun x A => x.1 ≤ a.es.length ∧ Below w1.heap.size w1 A ∧ A.ownsRow w1.heap.size 37 4 x.2 ((a.es.take x.1).filter a.here).length ((((a.es.take x.1).filter a.here).map fun e => pcs e.p).flatten)) (fun x _ => a.es.length - x.1) (0, .slice none 0 0)
    ⟨Nat.zero_le _, Below.refl _ _, World.ownsRow_nil _ _ _ _⟩ ⟨rfl, rfl, rfl, rfl, rfl, trivial⟩ ?_
  rintro J ⟨i, out⟩ A ⟨hi, hbA, ho⟩
  dsimp only at hi ho ⊢
  have bA : Below w.heap.size w A := hb1.trans (hbA.mono hb1.size)
  have sA := hbA.size
  have hinc : Value.int .i64 ((i : Int) + 1) = Value.int .i64 ((i + 1 : Nat) : Int) := by
    rw [Int.natCast_add]
    rfl
  by_cases hil : i < a.es.length
  · obtain ⟨b, off, rfl, hbl, hcells⟩ := (hks.below hbA (Nat.le_refl _)).at (i := i) (by rw [List.length_map]; exact hil)
    rw [List.getElem_map] at hcells
    have hft := filt_take (f := a.here) hil
    have hfl : ((a.es.take i).filter a.here).length ≤ 100000000 := Nat.le_trans (List.length_filter_le _ _) (by rw [List.length_take]; omega)
    generalize a.es[i] = e at *
    generalize (a.es.take i).filter a.here = L at *
    have hb := (h.below bA).1
    have hlt := hb.lt
    (refine Ga ?_)
    apply Lst_pu
    · apply P_idx
      focus rfl
      focus rfl
      focus rfl
      focus rfl
      focus rfl
      focus omega
      focus omega
    focus rfl
    rw [Int.toNat_natCast]
    (refine Ga ?_)
    apply Lst_loadS' (hc := hcells)
    focus rfl
    focus rfl
    focus rfl
    focus rfl
    focus rfl
    focus rfl
    unfold ecs
    obtain ⟨o1, o2, o3, rfl⟩ := own_slice ho
    (refine Ga ?_)
    have hbX : Below A.heap.size A ((A.alloc (.cells [.int .u64 0, .int .u64 0, .string ⟨#[]⟩, .bool false, .int .u64 0].toArray 77)).putObj A.heap.size (.cells [.int .u64 (e.p.c : Int), .int .u64 (e.p.k : Int), .string e.p.s, .bool e.p.g, .int .u64 e.t].toArray 77)) := Bel
    have hsX : ((A.alloc (.cells [.int .u64 0, .int .u64 0, .string ⟨#[]⟩, .bool false, .int .u64 0].toArray 77)).putObj A.heap.size (.cells [.int .u64 (e.p.c : Int), .int .u64 (e.p.k : Int), .string e.p.s, .bool e.p.g, .int .u64 e.t].toArray 77)).heap.size = A.heap.size + 1 := by simp only [Sx.sizes]
    have kX : Blk ((A.alloc (.cells [.int .u64 0, .int .u64 0, .string ⟨#[]⟩, .bool false, .int .u64 0].toArray 77)).putObj A.heap.size (.cells [.int .u64 (e.p.c : Int), .int .u64 (e.p.k : Int), .string e.p.s, .bool e.p.g, .int .u64 e.t].toArray 77)) A.heap.size [.int .u64 (e.p.c : Int), .int .u64 (e.p.k : Int), .string e.p.s, .bool e.p.g, .int .u64 e.t] 77 := (by (repeat (first | assumption | (apply Blk.below (hb := hb1); rotate_left; (focus ((try simp only [Sx.sizes]); omega)); rotate_right) | (apply Blk.below (hb := hb2); rotate_left; (focus ((try simp only [Sx.sizes]); omega)); rotate_right) | (apply Blk.below (hb := hb3); rotate_left; (focus ((try simp only [Sx.sizes]); omega)); rotate_right) | (apply Blk.below (hb := hb4); rotate_left; (focus ((try simp only [Sx.sizes]); omega)); rotate_right) | (apply Blk.below (hb := hb5); rotate_left; (focus ((try simp only [Sx.sizes]); omega)); rotate_right) | (apply Blk.below (hb := hb6); rotate_left; (focus ((try simp only [Sx.sizes]); omega)); rotate_right) | (apply Blk.below (hb := hb7); rotate_left; (focus ((try simp only [Sx.sizes]); omega)); rotate_right) | (apply Blk.below (hb := hb8); rotate_left; (focus ((try simp only [Sx.sizes]); omega)); rotate_right) | (apply Blk.below (hb := hb9); rotate_left; (focus ((try simp only [Sx.sizes]); omega)); rotate_right) | exact Blk.newE (by first | rfl | ((try simp only [Sx.sizes]); first | done | omega)) _ _ | exact Blk.put_same (by (try simp only [Sx.sizes]); first | done | omega) _ _ | (apply Blk.put_ne; (focus omega)) | apply Blk.alloc | apply Blk.drew)); done)
    have hbY := hb.below hbX hlt
    generalize (A.alloc (.cells [.int .u64 0, .int .u64 0, .string ⟨#[]⟩, .bool false, .int .u64 0].toArray 77)).putObj A.heap.size (.cells [.int .u64 (e.p.c : Int), .int .u64 (e.p.k : Int), .string e.p.s, .bool e.p.g, .int .u64 e.t].toArray 77) = X at *
    have ho1 := own_below ho hbX (Nat.le_refl _)
    have hbA1 := hbA.trans (hbX.mono sA)
    have hskip : ∀ (W : World), W = World.drew X → a.here e = false → (i + 1 ≤ a.es.length ∧ Below w1.heap.size w1 W ∧ W.ownsRow w1.heap.size 37 4 (.slice o1 o2 o3) ((a.es.take (i + 1)).filter a.here).length ((((a.es.take (i + 1)).filter a.here).map fun e => pcs e.p).flatten)) := by
      rintro _ rfl hh
      rw [hft, if_neg (by rw [hh]; exact Bool.false_ne_true), List.append_nil]
      exact ⟨by omega, Below.drew hbA1, own_drew ho1⟩
    cases hg : e.p.g with
    | true =>
      rw [hg] at kX
      refine W_draws (fun A' => A' = World.drew _) rfl (by kernel_rfl) rfl ?_
      (refine Qf ?_)
      intro W9 hW9
      (refine Ga ?_)
      exact rndQ_n (α := Nat × Value) (i + 1, .slice o1 o2 o3) (hskip W9 hW9 (by unfold Awr.here; rw [hg]; rfl)) ⟨rfl, rfl, rfl, rfl, hinc, trivial⟩ (by dsimp only; omega)
    | false =>
      rw [hg] at kX
      obtain ⟨D, hD⟩ : ∃ D, IntKind.u64.wrap (a.now - e.t) = D := ⟨_, rfl⟩
      have hD' : arith .sub .u64 a.now e.t = D := hD
      by_cases hlt2 : D < a.last
      · have hh : a.here e = true := by unfold Awr.here; rw [hg, hD, decide_eq_true hlt2]; rfl
        refine W_draws (fun A' => A' = World.drew _) rfl (by kernel_rfl) rfl ?_
        (refine Qf ?_)
        rintro _ rfl
        have kX' := kX.drew
        have ho2 := own_drew ho1
        have hbA2 := Below.drew hbA1
        have hs2 : X.drew.heap.size = X.heap.size := rfl
        generalize X.drew = Y at *
        (refine Ga ?_)
        apply Lst_push (hown := ho2) (bytes := 40)
        ((focus constructor); (focus rfl); (focus rfl); (focus rfl); (focus rfl); (focus rfl); (focus rfl); (focus rfl); (focus rfl); (focus rfl); (focus rfl); (focus simp [Value.oneCell']); (focus rfl); (focus rfl); (focus rfl); (focus rfl); (focus omega); (focus omega); (focus omega))
        intro v' A2 ho3 hgr _
        have hb2' := Sx.Below.own hbA2 ho2 hgr (Nat.le_refl _) (by omega)
        obtain ⟨u1, u2, u3, rfl⟩ := own_slice ho3
        (refine Ga ?_)
        refine rndQ_n (α := Nat × Value) (i + 1, .slice u1 u2 u3) ⟨by dsimp only; omega, hb2', ?_⟩ ⟨rfl, rfl, rfl, rfl, hinc, trivial⟩ (by dsimp only; omega)
        dsimp only
        rw [hft, if_pos hh, List.map_append, List.flatten_append, List.length_append, List.map_singleton, List.flatten_singleton]
        unfold pcs
        rw [hg]
        exact ho3
      · refine W_draws (fun A' => A' = World.drew _) rfl (by kernel_rfl) rfl ?_
        (refine Qf ?_)
        intro W9 hW9
        (refine Ga ?_)
        exact rndQ_n (α := Nat × Value) (i + 1, .slice o1 o2 o3) (hskip W9 hW9 (by unfold Awr.here; rw [hg, hD, decide_eq_false hlt2]; rfl)) ⟨rfl, rfl, rfl, rfl, hinc, trivial⟩ (by dsimp only; omega)
  · obtain rfl : i = a.es.length := by omega
    rw [List.take_of_length_le (Nat.le_refl _)] at ho
    have hP : Prs A out a.seen := by
      unfold Prs Awr.seen
      rw [List.map_map]
      exact SRows.of_own ho (fun l hl => by
        obtain ⟨e, _, rfl⟩ := List.mem_map.1 hl
        rfl) (by omega)
    obtain ⟨o1, o2, o3, rfl⟩ := own_slice ho
    (refine Ga ?_)
    (apply retQ1; (focus rfl))
    exact ⟨hP, bA⟩
end Aw
end Go.Proofs.Ytoljcnlmockpcaa
