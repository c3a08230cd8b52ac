/- Merged: SqV, SqX, SqY, SqZ, SqC, SqT. -/
import Derived.Test.YtmgipnckojopcaaGreatPcJSqFToSqU
import Derived.Test.YtmgipnckojopcaaGreatPcJPlaceToSqW
namespace Go.Proofs.YtmgipnckojopcaaGreat
set_option maxRecDepth 100000
namespace Sq
open Go Go.RowKit Sx Tl
variable {E : Env} {ord rt N D : List Id} {ρ : Id → Rec} {w : World}
def thereV (D : List Id) (k : Id) : Bool := decide (k = Fo.none') || decide (k ∈ D)
def mayV (ord D : List Id) (u : Un) : Bool := Fo.rightId u.id && !decide (u.id ∈ D) && thereV D u.l && thereV D u.r && (decide (u.l = Fo.none') || decide (u.r = Fo.none') || decide (findV ord D u.l < findV ord D u.r))
theorem lookPtr (D : List Id) (k : Id) : ∃ lo, (if k ∈ D then pv E k else .pointer none) = Value.pointer lo ∧ (!lo.isNone) = decide (k ∈ D) := by
  by_cases e : k ∈ D
  · rw [if_pos e, decide_eq_true e]
    exact ⟨_, rfl, rfl⟩
  · rw [if_neg e, decide_eq_false e]
    exact ⟨_, rfl, rfl⟩
attribute [local irreducible] W Lst Qst Pu seqQ blkQ rndQ cutQ retQ Does Enters IntKind.wrap bits sb World.alloc World.putObj Blk
theorem c_there (k : Id) (b : Nat) (hb : Blk w b [.pointer (some ⟨E.p, 0, none⟩)] 25) (h : Core w E ord rt N D ρ) :
    Does Tryz.prog 68 #[idv k, .pointer (some ⟨b, 0, none⟩)] w fun v w' => v = .bool (thereV D k) ∧ Below w.heap.size w w' := by
  refine Does_of (args := [idv k, .pointer (some ⟨b, 0, none⟩)]) Tryz.func68 (by kernel_rfl) rfl rfl rfl rfl rfl ?_
  (refine Ga ?_)
  obtain ⟨X, hXe⟩ : ∃ X, w.alloc (.cells (idcs k).toArray 40) = X := ⟨_, rfl⟩
  have hbX : Below w.heap.size w X := by rw [← hXe]; exact Bel
  have kX : Blk X w.heap.size (idcs k) 40 := by rw [← hXe]; exact (by (repeat (first | assumption | (apply Blk.below (hb := hb1); rotate_left; (focus ((try simp only [Sx.sizes]); omega)); rotate_right) | (apply Blk.below (hb := hb2); rotate_left; (focus ((try simp only [Sx.sizes]); omega)); rotate_right) | (apply Blk.below (hb := hb3); rotate_left; (focus ((try simp only [Sx.sizes]); omega)); rotate_right) | (apply Blk.below (hb := hb4); rotate_left; (focus ((try simp only [Sx.sizes]); omega)); rotate_right) | (apply Blk.below (hb := hb5); rotate_left; (focus ((try simp only [Sx.sizes]); omega)); rotate_right) | (apply Blk.below (hb := hb6); rotate_left; (focus ((try simp only [Sx.sizes]); omega)); rotate_right) | (apply Blk.below (hb := hb7); rotate_left; (focus ((try simp only [Sx.sizes]); omega)); rotate_right) | (apply Blk.below (hb := hb8); rotate_left; (focus ((try simp only [Sx.sizes]); omega)); rotate_right) | (apply Blk.below (hb := hb9); rotate_left; (focus ((try simp only [Sx.sizes]); omega)); rotate_right) | exact Blk.newE (by first | rfl | ((try simp only [Sx.sizes]); first | done | omega)) _ _ | exact Blk.put_same (by (try simp only [Sx.sizes]); first | done | omega) _ _ | (apply Blk.put_ne; (focus omega)) | apply Blk.alloc | apply Blk.drew)); done)
  rw [hXe]
  clear hXe
  have hX := h.below hbX
  have hB := hb.below hbX hb.lt
  obtain ⟨so, sr, fresh, m, hS, hOo, hR, hM, hF⟩ := id hX.seq
  have ltX := kX.lt
  have ltS := hS.lt
  have ltB := hB.lt
  obtain ⟨lo, hlo, hloN⟩ := lookPtr (E := E) D k
  have hnn := fun A => n_none k A
  by_cases e : k = Fo.none'
  · rw [decide_eq_true e] at hnn
    have ht : thereV D k = true := by unfold thereV; rw [decide_eq_true e]; rfl
    refine W_draws (Grown _) rfl (by kernel_rfl) (grown_start _) ?_
    (refine Qb ?_)
    apply Qst_call (.bool true)
    focus rfl
    focus rfl
    · intro A9 hb9
      exact (hnn A9).mono fun v w' h => ⟨h.1, Sx.Below.after hb9 h.2⟩
    (refine Qb ?_)
    intro w8 hb8
    (refine Ga ?_)
    (apply retQ1; (focus rfl))
    exact ⟨by rw [ht]; rfl, hbX.trans (hb8.mono hbX.size)⟩
  · rw [decide_eq_false e] at hnn
    have ht : thereV D k = !lo.isNone := by unfold thereV; rw [decide_eq_false e, hloN]; rfl
    refine W_draws (Grown _) rfl (by kernel_rfl) (grown_start _) ?_
    (refine Qb ?_)
    apply Qst_call (.bool false)
    focus rfl
    focus rfl
    · intro A9 hb9
      exact (hnn A9).mono fun v w' h => ⟨h.1, Sx.Below.after hb9 h.2⟩
    (refine Qb ?_)
    apply Qst_lookup
    focus rfl
    focus rfl
    focus exact fun A9 hA9 => ((hX.below hA9).lookAll k).trans (by rw [hlo])
    focus rfl
    (refine Qb ?_)
    intro w8 hb8
    (refine Ga ?_)
    (apply retQ1; (focus rfl))
    exact ⟨by rw [ht]; rfl, hbX.trans (hb8.mono hbX.size)⟩
set_option maxHeartbeats 2000000 in
theorem c_may (u : Un) (hfar : ∀ g, w.heap.size ≤ g → E.tg g = .other) (hD : ∀ j, j ∈ ord ↔ j ∈ D) (hN : ∀ j ∈ ord, j ∈ N ∧ (ρ j).u.id = j) (hnd : ord.Nodup) (hlen : ord.length ≤ 1000000000) (h : Core w E ord rt N D ρ) :
    Does Tryz.prog 36 #[.pointer (some ⟨E.p, 0, none⟩), .agg (ucs u).toArray] w fun v w' => v = .bool (mayV ord D u) ∧ Core w' E ord rt N D ρ ∧ Kept E SF w w' := by
  refine Does_of (args := [.pointer (some ⟨E.p, 0, none⟩), .agg (ucs u).toArray]) Tryz.func36 (by kernel_rfl) rfl rfl rfl rfl rfl ?_
  (refine Ga ?_)
  obtain ⟨X, hXe⟩ : ∃ X, (w.alloc (.cells [.pointer (some ⟨E.p, 0, none⟩)].toArray 25)).alloc (.cells (ucs u).toArray 52) = X := ⟨_, rfl⟩
  have hbX : Below w.heap.size w X := by rw [← hXe]; exact Bel
  have kB : Blk X w.heap.size [.pointer (some ⟨E.p, 0, none⟩)] 25 := by rw [← hXe]; exact (by (repeat (first | assumption | (apply Blk.below (hb := hb1); rotate_left; (focus ((try simp only [Sx.sizes]); omega)); rotate_right) | (apply Blk.below (hb := hb2); rotate_left; (focus ((try simp only [Sx.sizes]); omega)); rotate_right) | (apply Blk.below (hb := hb3); rotate_left; (focus ((try simp only [Sx.sizes]); omega)); rotate_right) | (apply Blk.below (hb := hb4); rotate_left; (focus ((try simp only [Sx.sizes]); omega)); rotate_right) | (apply Blk.below (hb := hb5); rotate_left; (focus ((try simp only [Sx.sizes]); omega)); rotate_right) | (apply Blk.below (hb := hb6); rotate_left; (focus ((try simp only [Sx.sizes]); omega)); rotate_right) | (apply Blk.below (hb := hb7); rotate_left; (focus ((try simp only [Sx.sizes]); omega)); rotate_right) | (apply Blk.below (hb := hb8); rotate_left; (focus ((try simp only [Sx.sizes]); omega)); rotate_right) | (apply Blk.below (hb := hb9); rotate_left; (focus ((try simp only [Sx.sizes]); omega)); rotate_right) | exact Blk.newE (by first | rfl | ((try simp only [Sx.sizes]); first | done | omega)) _ _ | exact Blk.put_same (by (try simp only [Sx.sizes]); first | done | omega) _ _ | (apply Blk.put_ne; (focus omega)) | apply Blk.alloc | apply Blk.drew)); done)
  have kU : Blk X (w.heap.size + 1) (ucs u) 52 := by rw [← hXe]; exact (by (repeat (first | assumption | (apply Blk.below (hb := hb1); rotate_left; (focus ((try simp only [Sx.sizes]); omega)); rotate_right) | (apply Blk.below (hb := hb2); rotate_left; (focus ((try simp only [Sx.sizes]); omega)); rotate_right) | (apply Blk.below (hb := hb3); rotate_left; (focus ((try simp only [Sx.sizes]); omega)); rotate_right) | (apply Blk.below (hb := hb4); rotate_left; (focus ((try simp only [Sx.sizes]); omega)); rotate_right) | (apply Blk.below (hb := hb5); rotate_left; (focus ((try simp only [Sx.sizes]); omega)); rotate_right) | (apply Blk.below (hb := hb6); rotate_left; (focus ((try simp only [Sx.sizes]); omega)); rotate_right) | (apply Blk.below (hb := hb7); rotate_left; (focus ((try simp only [Sx.sizes]); omega)); rotate_right) | (apply Blk.below (hb := hb8); rotate_left; (focus ((try simp only [Sx.sizes]); omega)); rotate_right) | (apply Blk.below (hb := hb9); rotate_left; (focus ((try simp only [Sx.sizes]); omega)); rotate_right) | exact Blk.newE (by first | rfl | ((try simp only [Sx.sizes]); first | done | omega)) _ _ | exact Blk.put_same (by (try simp only [Sx.sizes]); first | done | omega) _ _ | (apply Blk.put_ne; (focus omega)) | apply Blk.alloc | apply Blk.drew)); done)
  have hcU : ucs u = [.int .u64 (u.id.1 : Int), .int .u64 (u.id.2 : Int), .int .u64 (u.l.1 : Int), .int .u64 (u.l.2 : Int), .int .u64 (u.r.1 : Int), .int .u64 (u.r.2 : Int)] := rfl
  rw [hcU] at kU
  rw [hXe]
  clear hXe
  have hX := h.below hbX
  obtain ⟨so, sr, fresh, m, hS, hOo, hR, hM, hF⟩ := id hX.seq
  have ltB := kB.lt
  have ltU := kU.lt
  have ltS := hS.lt
  obtain ⟨lo, hlo, hloN⟩ := lookPtr (E := E) D u.id
  have hRi := fun A => n_Right u.id A
  have hTl := fun A (hA : Below X.heap.size X A) => c_there u.l w.heap.size (kB.below hA ltB) (hX.below hA)
  have hTr := fun A (hA : Below X.heap.size X A) => c_there u.r w.heap.size (kB.below hA ltB) (hX.below hA)
  have hNl := fun A => n_none u.l A
  have hNr := fun A => n_none u.r A
  have hm : mayV ord D u = (Fo.rightId u.id && !decide (u.id ∈ D) && thereV D u.l && thereV D u.r && (decide (u.l = Fo.none') || decide (u.r = Fo.none') || decide (findV ord D u.l < findV ord D u.r))) := rfl
  rw [← hloN] at hm
  cases e1 : Fo.rightId u.id with
  | false =>
    rw [e1] at hm hRi
    (refine Ga ?_)
    refine W_draws (Grown _) rfl (by kernel_rfl) (grown_start _) ?_
    (refine Qb ?_)
    apply Qst_call (.bool false)
    focus rfl
    focus rfl
    · intro A9 hb9
      exact (hRi A9).mono fun v w' h => ⟨h.1, Sx.Below.after hb9 h.2⟩
    (refine Qb ?_)
    intro w8 hb8
    (refine Ga ?_)
    (apply retQ1; (focus rfl))
    exact ⟨by rw [hm]; rfl, hX.below hb8, .of (hbX.trans (hb8.mono hbX.size))⟩
  | true =>
    rw [e1] at hm hRi
    cases lo with
    | some lo =>
      (refine Ga ?_)
      refine W_draws (Grown _) rfl (by kernel_rfl) (grown_start _) ?_
      (refine Qb ?_)
      apply Qst_call (.bool true)
      focus rfl
      focus rfl
      · intro A9 hb9
        exact (hRi A9).mono fun v w' h => ⟨h.1, Sx.Below.after hb9 h.2⟩
      (refine Qb ?_)
      apply Qst_lookup
      focus rfl
      focus rfl
      focus exact fun A9 hA9 => ((hX.below hA9).lookAll u.id).trans (by rw [hlo])
      focus rfl
      (refine Qb ?_)
      intro w8 hb8
      (refine Ga ?_)
      (apply retQ1; (focus rfl))
      exact ⟨by rw [hm]; rfl, hX.below hb8, .of (hbX.trans (hb8.mono hbX.size))⟩
    | none =>
      cases e2 : thereV D u.l with
      | false =>
        rw [e2] at hm hTl
        (refine Ga ?_)
        refine W_draws (Grown _) rfl (by kernel_rfl) (grown_start _) ?_
        (refine Qb ?_)
        apply Qst_call (.bool true)
        focus rfl
        focus rfl
        · intro A9 hb9
          exact (hRi A9).mono fun v w' h => ⟨h.1, Sx.Below.after hb9 h.2⟩
        (refine Qb ?_)
        apply Qst_lookup
        focus rfl
        focus rfl
        focus exact fun A9 hA9 => ((hX.below hA9).lookAll u.id).trans (by rw [hlo])
        focus rfl
        (refine Qb ?_)
        apply Qst_call (.bool false)
        focus rfl
        focus rfl
        · intro A9 hb9
          exact (hTl A9 hb9).mono fun v w' h => ⟨h.1, Sx.Below.after hb9 h.2⟩
        (refine Qb ?_)
        intro w8 hb8
        (refine Ga ?_)
        (apply retQ1; (focus rfl))
        exact ⟨by rw [hm]; rfl, hX.below hb8, .of (hbX.trans (hb8.mono hbX.size))⟩
      | true =>
        rw [e2] at hm hTl
        cases e3 : thereV D u.r with
        | false =>
          rw [e3] at hm hTr
          (refine Ga ?_)
          refine W_draws (Grown _) rfl (by kernel_rfl) (grown_start _) ?_
          (refine Qb ?_)
          apply Qst_call (.bool true)
          focus rfl
          focus rfl
          · intro A9 hb9
            exact (hRi A9).mono fun v w' h => ⟨h.1, Sx.Below.after hb9 h.2⟩
          (refine Qb ?_)
          apply Qst_lookup
          focus rfl
          focus rfl
          focus exact fun A9 hA9 => ((hX.below hA9).lookAll u.id).trans (by rw [hlo])
          focus rfl
          (refine Qb ?_)
          apply Qst_call (.bool true)
          focus rfl
          focus rfl
          · intro A9 hb9
            exact (hTl A9 hb9).mono fun v w' h => ⟨h.1, Sx.Below.after hb9 h.2⟩
          (refine Qb ?_)
          apply Qst_call (.bool false)
          focus rfl
          focus rfl
          · intro A9 hb9
            exact (hTr A9 hb9).mono fun v w' h => ⟨h.1, Sx.Below.after hb9 h.2⟩
          (refine Qb ?_)
          intro w8 hb8
          (refine Ga ?_)
          (apply retQ1; (focus rfl))
          exact ⟨by rw [hm]; rfl, hX.below hb8, .of (hbX.trans (hb8.mono hbX.size))⟩
        | true =>
          rw [e3] at hm hTr
          (refine Ga ?_)
          refine W_draws (Grown _) rfl (by kernel_rfl) (grown_start _) ?_
          (refine Qb ?_)
          apply Qst_call (.bool true)
          focus rfl
          focus rfl
          · intro A9 hb9
            exact (hRi A9).mono fun v w' h => ⟨h.1, Sx.Below.after hb9 h.2⟩
          (refine Qb ?_)
          apply Qst_lookup
          focus rfl
          focus rfl
          focus exact fun A9 hA9 => ((hX.below hA9).lookAll u.id).trans (by rw [hlo])
          focus rfl
          (refine Qb ?_)
          apply Qst_call (.bool true)
          focus rfl
          focus rfl
          · intro A9 hb9
            exact (hTl A9 hb9).mono fun v w' h => ⟨h.1, Sx.Below.after hb9 h.2⟩
          (refine Qb ?_)
          apply Qst_call (.bool true)
          focus rfl
          focus rfl
          · intro A9 hb9
            exact (hTr A9 hb9).mono fun v w' h => ⟨h.1, Sx.Below.after hb9 h.2⟩
          (refine Qb ?_)
          intro w8 hb8
          have kB8 := kB.below hb8 ltB
          have kU8 := kU.below hb8 ltU
          have h8 := hX.below hb8
          have hbw := hbX.trans (hb8.mono hbX.size)
          have htB : E.tg w.heap.size = .other := hfar _ (Nat.le_refl _)
          have htU : E.tg (w.heap.size + 1) = .other := hfar _ (Nat.le_succ _)
          clear kB kU hS ltB ltU ltS
          have ltB := kB8.lt
          have ltU := kU8.lt
          by_cases e4 : u.l = Fo.none'
          · rw [decide_eq_true e4] at hm hNl
            (refine Ga ?_)
            refine W_draws (Grown _) rfl (by kernel_rfl) (grown_start _) ?_
            (refine Qb ?_)
            apply Qst_call (.bool true)
            focus rfl
            focus rfl
            · intro A9 hb9
              exact (hNl A9).mono fun v w' h => ⟨h.1, Sx.Below.after hb9 h.2⟩
            (refine Qb ?_)
            intro w7 hb7
            (refine Ga ?_)
            (apply retQ1; (focus rfl))
            exact ⟨by rw [hm]; rfl, (hX.below hb8).below hb7, .of (hbw.trans (hb7.mono hbw.size))⟩
          · rw [decide_eq_false e4] at hm hNl
            by_cases e5 : u.r = Fo.none'
            · rw [decide_eq_true e5] at hm hNr
              (refine Ga ?_)
              refine W_draws (Grown _) rfl (by kernel_rfl) (grown_start _) ?_
              (refine Qb ?_)
              apply Qst_call (.bool false)
              focus rfl
              focus rfl
              · intro A9 hb9
                exact (hNl A9).mono fun v w' h => ⟨h.1, Sx.Below.after hb9 h.2⟩
              (refine Qb ?_)
              apply Qst_call (.bool true)
              focus rfl
              focus rfl
              · intro A9 hb9
                exact (hNr A9).mono fun v w' h => ⟨h.1, Sx.Below.after hb9 h.2⟩
              (refine Qb ?_)
              intro w7 hb7
              (refine Ga ?_)
              (apply retQ1; (focus rfl))
              exact ⟨by rw [hm]; rfl, (hX.below hb8).below hb7, .of (hbw.trans (hb7.mono hbw.size))⟩
            · rw [decide_eq_false e5] at hm hNr
              (refine Ga ?_)
              refine W_draws (fun A => Core A E ord rt N D ρ ∧ Kept E SF w8 A) rfl (by kernel_rfl) ⟨h8.below (Below.drew (Below.refl _ _)), .of (Below.drew (Below.refl _ _))⟩ ?_
              (refine Qb ?_)
              apply Qst_loadA
              focus rfl
              focus rfl
              focus rfl
              focus rfl
              focus rfl
              focus exact fun A9 hA9 => hA9.2.blk kU8 (by rw [htU]; simp)
              focus (repeat constructor)
              focus rfl
              (refine Qb ?_)
              apply Qst_call (.bool false)
              focus rfl
              focus rfl
              · intro A9 hA9
                exact (hNl A9).mono fun v w' h => ⟨h.1, hA9.1.below h.2, hA9.2.trans (.of h.2)⟩
              (refine Qb ?_)
              apply Qst_loadA
              focus rfl
              focus rfl
              focus rfl
              focus rfl
              focus rfl
              focus exact fun A9 hA9 => hA9.2.blk kU8 (by rw [htU]; simp)
              focus (repeat constructor)
              focus rfl
              (refine Qb ?_)
              apply Qst_call (.bool false)
              focus rfl
              focus rfl
              · intro A9 hA9
                exact (hNr A9).mono fun v w' h => ⟨h.1, hA9.1.below h.2, hA9.2.trans (.of h.2)⟩
              (refine Qb ?_)
              apply Qst_load
              focus rfl
              focus rfl
              focus rfl
              focus exact fun A9 hA9 => hA9.2.blk kB8 (by rw [htB]; simp)
              focus rfl
              focus rfl
              (refine Qb ?_)
              apply Qst_loadA
              focus rfl
              focus rfl
              focus rfl
              focus rfl
              focus rfl
              focus exact fun A9 hA9 => hA9.2.blk kU8 (by rw [htU]; simp)
              focus (repeat constructor)
              focus rfl
              (refine Qb ?_)
              apply Qst_call (.int .i64 (findV ord D u.l))
              focus rfl
              focus rfl
              · intro A9 hA9
                exact (c_Find u.l hD hN hnd hlen hA9.1).mono fun v w' h => ⟨h.1, h.2.1, hA9.2.trans h.2.2⟩
              (refine Qb ?_)
              apply Qst_load
              focus rfl
              focus rfl
              focus rfl
              focus exact fun A9 hA9 => hA9.2.blk kB8 (by rw [htB]; simp)
              focus rfl
              focus rfl
              (refine Qb ?_)
              apply Qst_loadA
              focus rfl
              focus rfl
              focus rfl
              focus rfl
              focus rfl
              focus exact fun A9 hA9 => hA9.2.blk kU8 (by rw [htU]; simp)
              focus (repeat constructor)
              focus rfl
              (refine Qb ?_)
              apply Qst_call (.int .i64 (findV ord D u.r))
              focus rfl
              focus rfl
              · intro A9 hA9
                exact (c_Find u.r hD hN hnd hlen hA9.1).mono fun v w' h => ⟨h.1, h.2.1, hA9.2.trans h.2.2⟩
              (refine Qb ?_)
              by_cases hlt : findV ord D u.l < findV ord D u.r
              · rw [decide_eq_true hlt] at hm
                generalize findV ord D u.l = x1 at *
                generalize findV ord D u.r = x2 at *
                (refine Qb ?_)
                rintro w7 ⟨h7, hk7⟩
                (refine Ga ?_)
                (apply retQ1; (focus rfl))
                exact ⟨by rw [hm]; rfl, h7, (Kept.of hbw).trans hk7⟩
              · rw [decide_eq_false hlt] at hm
                generalize findV ord D u.l = x1 at *
                generalize findV ord D u.r = x2 at *
                (refine Qb ?_)
                rintro w7 ⟨h7, hk7⟩
                (refine Ga ?_)
                (apply retQ1; (focus rfl))
                exact ⟨by rw [hm]; rfl, h7, (Kept.of hbw).trans hk7⟩
end Sq
namespace Sq
namespace Fo
theorem lt_iff {a b : Id} : lt a b = true ↔ a.1 < b.1 ∨ (a.1 = b.1 ∧ a.2 < b.2) := by unfold lt; simp
theorem lt_no {a b : Id} : lt a b = false ↔ ¬ (a.1 < b.1 ∨ (a.1 = b.1 ∧ a.2 < b.2)) := by rw [← lt_iff]; simp
theorem lt_trans {a b c : Id} (h : lt a b = true) (k : lt b c = true) : lt a c = true := by rw [lt_iff] at *; omega
theorem lt_asymm {a b : Id} (h : lt a b = true) : lt b a = false := by rw [lt_no]; rw [lt_iff] at h; omega
theorem lt_total {a b : Id} (h : lt a b = false) (hne : a ≠ b) : lt b a = true := by
  rw [lt_no] at h
  rw [lt_iff]
  by_cases e : a.1 = b.1
  · by_cases e2 : a.2 = b.2
    · exact absurd (Prod.ext e e2) hne
    · omega
  · omega
theorem tw_lt {α : Type} {p : α → Bool} : ∀ {l : List α} {i : Nat} (hi : i < l.length), i < (l.takeWhile p).length → p l[i] = true
  | a :: l, 0, _, h => by
    rw [List.takeWhile_cons] at h
    split at h
    · assumption
    · simp at h
  | a :: l, i + 1, hi, h => by
    rw [List.takeWhile_cons] at h
    split at h
    · exact tw_lt (l := l) (Nat.lt_of_succ_lt_succ hi) (Nat.lt_of_succ_lt_succ h)
    · simp at h
theorem tw_eq {α : Type} {p : α → Bool} : ∀ {l : List α} {i : Nat} (hi : i < l.length), i = (l.takeWhile p).length → p l[i] = false
  | a :: l, 0, _, h => by
    rw [List.takeWhile_cons] at h
    split at h
    · simp at h
    · rename_i hn
      simpa using hn
  | a :: l, i + 1, hi, h => by
    rw [List.takeWhile_cons] at h
    split at h
    · exact tw_eq (l := l) (Nat.lt_of_succ_lt_succ hi) (Nat.succ.inj h)
    · simp at h
theorem pass_tips (q : Id → Bool) (t : Fo) : pass (fun a => q a.id) t = (t.tips.takeWhile q).length := by
  unfold pass tips
  rw [List.takeWhile_map, List.length_map]
  rfl
/-! ### Where it stands -/
theorem pos_split {t : Fo} {A B : List Un} {u : Un} {l r : Fo} (hn : t.ids.Nodup) (hf : t.flat = A ++ l.flat ++ u :: r.flat ++ B) : pos t u.id = A.length + sz l := by
  unfold pos
  have e : t.ids = (A ++ l.flat).map (·.id) ++ u.id :: (r.flat ++ B).map (·.id) := by unfold ids; rw [hf]; simp
  rw [e] at hn ⊢
  rw [List.nodup_append] at hn
  rw [List.idxOf_append, if_neg (fun hm => hn.2.2 _ hm _ (List.mem_cons_self ..) rfl), List.idxOf_cons_self, List.length_map, List.length_append]
  exact Nat.zero_add _
theorem mem_split {t : Fo} {A B : List Un} {u : Un} {l r : Fo} (hf : t.flat = A ++ l.flat ++ u :: r.flat ++ B) : (∀ j ∈ l.ids, j ∈ t.ids) ∧ (∀ j ∈ r.ids, j ∈ t.ids) := by
  unfold ids
  rw [hf]
  refine ⟨fun j hj => ?_, fun j hj => ?_⟩
  · simp only [List.map_append, List.mem_append]
    exact .inl (.inl (.inr hj))
  · simp only [List.map_append, List.mem_append, List.map_cons, List.mem_cons]
    exact .inl (.inr (.inr hj))
theorem rst_sz : ∀ (n : Nat) (t : Fo), ((rst n t).flat).length = (t.szs.drop n).sum
  | 0, t => (szs_sum t).symm
  | _ + 1, nil => rfl
  | n + 1, nd _ _ _ s => rst_sz n s
theorem ids_len (t : Fo) : t.ids.length = t.sz := by unfold ids; rw [List.length_map]; rfl
theorem put_left {t : Fo} {u : Un} (hn : t.ids.Nodup) (hL : isL t u = true) (hr : u.r ∈ t.ids) : ∃ A B v l r, v.id = u.r ∧ t.flat = A ++ l.flat ++ v :: r.flat ++ B ∧ (put t u).flat = A ++ ((fst (pass (fun a => lt a.id u.id) l) l).flat ++ u :: (rst (pass (fun a => lt a.id u.id) l) l).flat) ++ v :: r.flat ++ B ∧
    ∀ (ρ : Id → Rec) (p : Option Id), Fits ρ p t → (∃ q, ρ u.r = ⟨v, q, l.tips, r.tips, sz l + 1 + sz r⟩) ∧ Fits ρ (some u.r) l ∧ Fits ρ (some u.r) r := by
  obtain ⟨A, B, v, l, r, hv, hf, hM, hF⟩ := split hn hr
  refine ⟨A, B, v, l, r, hv, hf, ?_, hF⟩
  unfold put
  rw [if_pos hL, hM, ins_flat]
  rfl
theorem put_right {t : Fo} {u : Un} (hn : t.ids.Nodup) (hL : isL t u = false) (hl : u.l ∈ t.ids) : ∃ A B v l r, v.id = u.l ∧ t.flat = A ++ l.flat ++ v :: r.flat ++ B ∧ (put t u).flat = A ++ l.flat ++ v :: ((fst (pass (fun a => ahead t a u) r) r).flat ++ u :: (rst (pass (fun a => ahead t a u) r) r).flat) ++ B ∧
    ∀ (ρ : Id → Rec) (p : Option Id), Fits ρ p t → (∃ q, ρ u.l = ⟨v, q, l.tips, r.tips, sz l + 1 + sz r⟩) ∧ Fits ρ (some u.l) l ∧ Fits ρ (some u.l) r := by
  obtain ⟨A, B, v, l, r, hv, hf, hM, hF⟩ := split hn hl
  refine ⟨A, B, v, l, r, hv, hf, ?_, hF⟩
  unfold put
  rw [if_neg (by rw [hL]; simp), if_pos hl, hM, ins_flat]
  rfl
theorem put_root {t : Fo} {u : Un} (hL : isL t u = false) (hl : u.l ∉ t.ids) : (put t u).flat = (fst (pass (fun a => ahead t a u) t) t).flat ++ u :: (rst (pass (fun a => ahead t a u) t) t).flat := by
  unfold put
  rw [if_neg (by rw [hL]; simp), if_neg hl, ins_flat]
/-- All others stay, the new one comes in between. -/
theorem put_in {t : Fo} {u : Un} (hn : t.ids.Nodup) : ∃ A B, t.flat = A ++ B ∧ (put t u).flat = A ++ u :: B := by
  cases hL : isL t u with
  | true =>
    have hr : u.r ∈ t.ids := by
      unfold isL at hL
      simp only [Bool.and_eq_true, decide_eq_true_eq] at hL
      exact hL.1
    obtain ⟨A, B, v, l, r, _, hf, hp, _⟩ := put_left hn hL hr
    refine ⟨A ++ (fst (pass (fun a => lt a.id u.id) l) l).flat, (rst (pass (fun a => lt a.id u.id) l) l).flat ++ v :: r.flat ++ B, ?_, ?_⟩
    · rw [hf]
      conv => lhs; rw [← fst_rst (pass (fun a => lt a.id u.id) l) l]
      simp
    · rw [hp]
      simp
  | false =>
    by_cases hl : u.l ∈ t.ids
    · obtain ⟨A, B, v, l, r, _, hf, hp, _⟩ := put_right hn hL hl
      refine ⟨A ++ l.flat ++ v :: (fst (pass (fun a => ahead t a u) r) r).flat, (rst (pass (fun a => ahead t a u) r) r).flat ++ B, ?_, ?_⟩
      · rw [hf]
        conv => lhs; rw [← fst_rst (pass (fun a => ahead t a u) r) r]
        simp
      · rw [hp]
        simp
    · exact ⟨_, _, (fst_rst _ t).symm, put_root hL hl⟩
theorem put_mem {t : Fo} {u : Un} (hn : t.ids.Nodup) (x : Un) : x ∈ (put t u).flat ↔ x = u ∨ x ∈ t.flat := by
  obtain ⟨A, B, h1, h2⟩ := put_in (u := u) hn
  rw [h1, h2]
  simp only [List.mem_append, List.mem_cons]
  constructor
  · rintro (h | h | h)
    · exact .inr (.inl h)
    · exact .inl h
    · exact .inr (.inr h)
  · rintro (h | h | h)
    · exact .inr (.inl h)
    · exact .inl h
    · exact .inr (.inr h)
theorem put_ids {t : Fo} {u : Un} (hn : t.ids.Nodup) (k : Id) : k ∈ (put t u).ids ↔ k = u.id ∨ k ∈ t.ids := by
  unfold ids
  simp only [List.mem_map, put_mem hn]
  constructor
  · rintro ⟨x, rfl | hx, rfl⟩
    · exact .inl rfl
    · exact .inr ⟨x, hx, rfl⟩
  · rintro (rfl | ⟨x, hx, rfl⟩)
    · exact ⟨u, .inl rfl, rfl⟩
    · exact ⟨x, .inr hx, rfl⟩
theorem put_nodup {t : Fo} {u : Un} (hn : t.ids.Nodup) (hu : u.id ∉ t.ids) : (put t u).ids.Nodup := by
  obtain ⟨A, B, h1, h2⟩ := put_in (u := u) hn
  unfold ids at hn hu ⊢
  rw [h1] at hn hu
  rw [h2]
  rw [List.map_append] at hn hu
  rw [List.map_append, List.map_cons]
  exact (List.perm_middle.nodup_iff).2 (List.nodup_cons.2 ⟨hu, hn⟩)
/-! ### Sorted left children -/
theorem ls_ins {p : Un → Bool} {u : Un} : ∀ {t : Fo}, LS t → LS (insBy p u t)
  | nil, _ => ⟨List.Pairwise.nil, trivial, trivial, trivial⟩
  | nd v l r s, h => by
    unfold insBy
    split
    · exact ⟨h.1, h.2.1, h.2.2.1, ls_ins h.2.2.2⟩
    · exact ⟨List.Pairwise.nil, trivial, trivial, h⟩
theorem tips_ins {p : Un → Bool} {u : Un} {t : Fo} {k : Id} (h : k ∈ (insBy p u t).tips) : k = u.id ∨ k ∈ t.tips := by
  unfold tips at h ⊢
  rw [ins_tops, List.map_append, List.map_cons] at h
  simp only [List.mem_append, List.mem_cons] at h
  rcases h with h | h | h
  · exact .inr (by obtain ⟨x, hx, rfl⟩ := List.mem_map.1 h; exact List.mem_map.2 ⟨x, List.mem_of_mem_take hx, rfl⟩)
  · exact .inl h
  · exact .inr (by obtain ⟨x, hx, rfl⟩ := List.mem_map.1 h; exact List.mem_map.2 ⟨x, List.mem_of_mem_drop hx, rfl⟩)
theorem tips_ids : ∀ {t : Fo} {k : Id}, k ∈ t.tips → k ∈ t.ids
  | nil, _, h => by cases h
  | nd u l r s, k, h => by
    rw [ids_nd]
    have h' : k = u.id ∨ k ∈ s.tips := List.mem_cons.1 h
    simp only [List.mem_append, List.mem_cons]
    rcases h' with h | h
    · exact .inl (.inr (.inl h))
    · exact .inr (tips_ids h)
theorem sorted_ins {u : Un} : ∀ {t : Fo}, t.tips.Pairwise (fun a b => lt a b = true) → u.id ∉ t.tips → (insBy (fun a => lt a.id u.id) u t).tips.Pairwise (fun a b => lt a b = true)
  | nil, _, _ => List.pairwise_singleton ..
  | nd v l r s, h, hu => by
    have h' : (v.id :: s.tips).Pairwise (fun a b => lt a b = true) := h
    have hu' : u.id ∉ v.id :: s.tips := hu
    rw [List.pairwise_cons] at h'
    rw [List.mem_cons, not_or] at hu'
    unfold insBy
    cases e : lt v.id u.id with
    | true =>
      rw [if_pos rfl]
      show (v.id :: (insBy (fun a => lt a.id u.id) u s).tips).Pairwise _
      refine List.pairwise_cons.2 ⟨fun b hb => ?_, sorted_ins h'.2 hu'.2⟩
      rcases tips_ins hb with rfl | hb
      · exact e
      · exact h'.1 b hb
    | false =>
      rw [if_neg (by simp)]
      show (u.id :: v.id :: s.tips).Pairwise _
      have hlt := lt_total e (Ne.symm hu'.1)
      refine List.pairwise_cons.2 ⟨fun b hb => ?_, h⟩
      rcases List.mem_cons.1 hb with rfl | hb
      · exact hlt
      · exact lt_trans hlt (h'.1 b hb)
theorem ls_mod {k x : Id} {f g : Fo → Fo} (hf : ∀ l, LS l → l.tips.Pairwise (fun a b => lt a b = true) → x ∉ l.ids → LS (f l) ∧ (f l).tips.Pairwise (fun a b => lt a b = true)) (hg : ∀ r, LS r → LS (g r)) : ∀ {t : Fo}, LS t → x ∉ t.ids → LS (mod k f g t)
  | nil, h, _ => h
  | nd v l r s, h, hx => by
    rw [ids_nd] at hx
    simp only [List.mem_append, List.mem_cons, not_or] at hx
    unfold mod
    split
    · obtain ⟨h1, h2⟩ := hf l h.2.1 h.1 hx.1.1
      exact ⟨h2, h1, hg r h.2.2.1, h.2.2.2⟩
    · exact ⟨by rw [mod_tips]; exact h.1, ls_mod hf hg h.2.1 hx.1.1, ls_mod hf hg h.2.2.1 hx.1.2.2, ls_mod hf hg h.2.2.2 hx.2⟩
theorem ls_put {t : Fo} {u : Un} (h : LS t) (hu : u.id ∉ t.ids) : LS (put t u) := by
  unfold put
  split
  · exact ls_mod (x := u.id) (fun l h1 h2 h3 => ⟨ls_ins h1, sorted_ins h2 fun hm => h3 (tips_ids hm)⟩) (fun r h => h) h hu
  · split
    · exact ls_mod (x := u.id) (fun l h1 h2 _ => ⟨h1, h2⟩) (fun r h => ls_ins h) h hu
    · exact ls_ins h
/-- What is true of every sequence's tree. -/
structure Good (t : Fo) : Prop where
  nd : t.ids.Nodup
  ls : LS t
  right : ∀ k ∈ t.ids, rightId k = true
  org : ∀ u ∈ t.flat, (u.l = none' ∨ u.l ∈ t.ids) ∧ (u.r = none' ∨ u.r ∈ t.ids)
theorem Good.nil : Good nil := ⟨List.nodup_nil, trivial, (fun _ h => by cases h), (fun _ h => by cases h)⟩
theorem right_none : rightId none' = false := rfl
theorem Good.none {t : Fo} (h : Good t) : none' ∉ t.ids := fun hm => by have := h.right _ hm; rw [right_none] at this; cases this
/-- What may tells, but for the origins' places. -/
structure Can (t : Fo) (u : Un) : Prop where
  right : rightId u.id = true
  new : u.id ∉ t.ids
  l : u.l = none' ∨ u.l ∈ t.ids
  r : u.r = none' ∨ u.r ∈ t.ids
/-- What may tells. -/
structure May (t : Fo) (u : Un) : Prop extends Can t u where
  lr : u.l = none' ∨ u.r = none' ∨ t.pos u.l < t.pos u.r
theorem may_iff {t : Fo} {u : Un} : may t u = true ↔ May t u := by
  unfold may
  simp only [Bool.and_eq_true, Bool.or_eq_true, decide_eq_true_eq, Bool.not_eq_true', decide_eq_false_iff_not, or_assoc]
  exact ⟨fun h => ⟨⟨h.1.1.1.1, h.1.1.1.2, h.1.1.2, h.1.2⟩, h.2⟩, fun h => ⟨⟨⟨⟨h.right, h.new⟩, h.l⟩, h.r⟩, h.lr⟩⟩
theorem Good.put {t : Fo} {u : Un} (h : Good t) (hm : Can t u) : Good (put t u) :=
  ⟨put_nodup h.nd hm.new, ls_put h.ls hm.new, fun k hk => by
    rcases (put_ids h.nd k).1 hk with rfl | hk
    · exact hm.right
    · exact h.right k hk, fun x hx => by
    have up : ∀ {k : Id}, k = none' ∨ k ∈ t.ids → k = none' ∨ k ∈ (Fo.put t u).ids := fun h' => h'.imp id fun h' => (put_ids h.nd _).2 (.inr h')
    rcases (put_mem h.nd x).1 hx with rfl | hx
    · exact ⟨up hm.l, up hm.r⟩
    · exact ⟨up (h.org x hx).1, up (h.org x hx).2⟩⟩
theorem ids_at {t s : Fo} {u : Un} {A B : List Un} (h1 : t.flat = A ++ B) (h2 : s.flat = A ++ u :: B) : s.ids = t.ids.take A.length ++ u.id :: t.ids.drop A.length := by
  unfold ids
  rw [h1, h2, List.map_append, List.map_append, List.map_cons, List.take_left' (by simp), List.drop_left' (by simp)]
end Fo
end Sq
namespace Sq
open Go Go.RowKit Sx Tl
/-! ### From records to the tree -/
theorem fits_ins {ρ σ : Id → Rec} {p : Un → Bool} {u : Un} : ∀ {t : Fo} {q : Option Id}, Fo.Fits ρ q t → (∀ j ∈ t.ids, σ j = ρ j) → σ u.id = ⟨u, q, [], [], 1⟩ → Fo.Fits σ q (Fo.insBy p u t)
  | .nil, _, _, _, hx => ⟨hx, trivial, trivial, trivial⟩
  | .nd v l r s, q, h, he, hx => by
    have hs : ∀ j ∈ s.ids, σ j = ρ j := fun j hj => he j (by rw [Fo.ids_nd]; exact List.mem_append_right _ hj)
    have hw := h.congr he
    unfold Fo.insBy
    split
    · exact ⟨hw.1, hw.2.1, hw.2.2.1, fits_ins h.2.2.2 hs hx⟩
    · exact ⟨hx, trivial, trivial, hw⟩
theorem sz_ins (p : Un → Bool) (u : Un) (t : Fo) : (Fo.insBy p u t).sz = t.sz + 1 := by
  unfold Fo.sz
  rw [Fo.ins_flat]
  conv => rhs; rw [← Fo.fst_rst (Fo.pass p t) t]
  simp only [List.length_append, List.length_cons]
  omega
/-- Below this many. -/
theorem sub_sz {t : Fo} {A B : List Un} {u : Un} {l r : Fo} (hf : t.flat = A ++ l.flat ++ u :: r.flat ++ B) : A.length + l.sz + 1 + r.sz + B.length = t.sz := by
  unfold Fo.sz
  rw [hf]
  simp only [List.length_append, List.length_cons]
  omega
theorem tips_le : ∀ t : Fo, t.tips.length ≤ t.sz
  | .nil => Nat.le_refl _
  | .nd v l r s => by
    have := tips_le s
    show s.tips.length + 1 ≤ (l.flat ++ v :: r.flat ++ s.flat).length
    simp only [List.length_append, List.length_cons]
    unfold Fo.sz at this
    omega
/-- What Fits tells of one unit. -/
theorem fits_at {ρ : Id → Rec} {t : Fo} {k : Id} (hn : t.ids.Nodup) (hF : Fo.Fits ρ none t) (hk : k ∈ t.ids) : ∃ A B u l r q, u.id = k ∧ t.flat = A ++ l.flat ++ u :: r.flat ++ B ∧ ρ k = ⟨u, q, l.tips, r.tips, l.sz + 1 + r.sz⟩ ∧ Fo.Fits ρ (some k) l ∧ Fo.Fits ρ (some k) r := by
  obtain ⟨A, B, u, l, r, hu, hf, _, h⟩ := Fo.split hn hk
  obtain ⟨⟨q, h1⟩, h2, h3⟩ := h ρ none hF
  exact ⟨A, B, u, l, r, q, hu, hf, h1, h2, h3⟩
theorem fits_clo {ρ : Id → Rec} {t : Fo} (hn : t.ids.Nodup) (hF : Fo.Fits ρ none t) : Clo t.ids t.tips t.ids t.ids ρ := by
  refine ⟨fun _ h => h, fun _ h => Fo.tips_ids h, fun _ h => h, fun k hk j hj => ?_, fun k hk j hj => ?_, fun k hk j hj => ?_⟩
  · obtain ⟨A, B, u, l, r, q, hu, hf, h1, h2, h3⟩ := fits_at hn hF hk
    rw [h1] at hj
    exact (Fo.mem_split hf).1 j (Fo.tips_ids hj)
  · obtain ⟨A, B, u, l, r, q, hu, hf, h1, h2, h3⟩ := fits_at hn hF hk
    rw [h1] at hj
    exact (Fo.mem_split hf).2 j (Fo.tips_ids hj)
  · rw [Fo.Fits.par hn hk hF] at hj
    cases e : Fo.upL t k with
    | nil => rw [e] at hj; cases hj
    | cons a c =>
      rw [e] at hj
      cases hj
      exact Fo.upL_sub (by rw [e]; exact List.mem_cons_self ..)
theorem fits_sizes {ρ : Id → Rec} {t : Fo} (hn : t.ids.Nodup) (hF : Fo.Fits ρ none t) (hs : t.sz ≤ 1000000000 - 1) : Sizes t.tips t.ids ρ := by
  refine ⟨fun k hk => ?_, fun k hk => ?_, fun k hk => ?_, Nat.le_trans (tips_le t) hs⟩
  all_goals
    obtain ⟨A, B, u, l, r, q, hu, hf, h1, h2, h3⟩ := fits_at hn hF hk
    have := sub_sz hf
    have := tips_le l
    have := tips_le r
    rw [h1]
    dsimp only
    omega
theorem fits_u {ρ : Id → Rec} {t : Fo} (hF : Fo.Fits ρ none t) : ∀ j ∈ t.ids, (ρ j).u.id = j := fun j hj => by
  obtain ⟨u, hu, rfl⟩ := List.mem_map.1 hj
  rw [hF.rec_u u hu]
theorem fits_selfs {ρ : Id → Rec} {t : Fo} (hn : t.ids.Nodup) (hF : Fo.Fits ρ none t) : Selfs t.ids ρ := by
  refine ⟨fits_u hF, fun k hk i hi => ?_⟩
  obtain ⟨A, B, u, l, r, q, hu, hf, h1, h2, h3⟩ := fits_at hn hF hk
  rw [h1] at hi
  have hi := Fo.tips_ids hi
  rintro rfl
  unfold Fo.ids at hn
  rw [hf] at hn
  simp only [List.map_append, List.map_cons, List.append_assoc] at hn
  rw [List.nodup_append] at hn
  have h4 := hn.2.1
  rw [List.nodup_append] at h4
  exact h4.2.2 i hi u.id (by simp) hu.symm
theorem chain_up {ρ : Id → Rec} {t : Fo} (hn : t.ids.Nodup) (hF : Fo.Fits ρ none t) : ∀ (c : List Id) (k : Id), Fo.upL t k = c → ChainL ρ t.ids c
  | [], _, _ => trivial
  | j :: c, k, h => by
    have hj : j ∈ t.ids := Fo.upL_sub (k := k) (by rw [h]; exact List.mem_cons_self ..)
    have hc := Fo.upL_tail hn h
    refine ⟨hj, ?_, chain_up hn hF c j hc⟩
    rw [Fo.Fits.par hn hj hF, hc]
    cases c.head? <;> rfl
theorem par_up {ρ : Id → Rec} {t : Fo} (hn : t.ids.Nodup) (hF : Fo.Fits ρ none t) {k : Id} (hk : k ∈ t.ids) : (ρ k).par = (Fo.upL t k).head? := by
  rw [Fo.Fits.par hn hk hF]
  cases (Fo.upL t k).head? <;> rfl
/-! ### What the program asks is what the tree asks -/
theorem findV_pos {t : Fo} {k : Id} (h : k ∈ t.ids) : findV t.ids t.ids k = (t.pos k : Int) := if_pos h
theorem farV_eq {t : Fo} {u : Un} (h : u.r = Fo.none' ∨ u.r ∈ t.ids) : farV t.ids t.ids u = (Fo.far t u : Int) := by
  unfold farV Fo.far
  by_cases e : u.r = Fo.none'
  · rw [if_pos e, if_pos e, Fo.ids_len]
  · rw [if_neg e, if_neg e, findV_pos (h.resolve_left e)]
theorem aheadV_eq {t : Fo} {a b : Un} (ha : a.r = Fo.none' ∨ a.r ∈ t.ids) (hb : b.r = Fo.none' ∨ b.r ∈ t.ids) : aheadV t.ids t.ids a b = Fo.ahead t a b := by
  unfold aheadV Fo.ahead
  rw [farV_eq ha, farV_eq hb]
  by_cases e : Fo.far t a = Fo.far t b
  · rw [if_pos (by rw [e]), if_pos e]
  · rw [if_neg (by omega), if_neg e, decide_eq_decide]
    omega
theorem mayV_eq {t : Fo} (u : Un) : mayV t.ids t.ids u = Fo.may t u := by
  unfold mayV Fo.may thereV
  by_cases hl : u.l ∈ t.ids
  · by_cases hr : u.r ∈ t.ids
    · rw [findV_pos hl, findV_pos hr]
      have : decide ((t.pos u.l : Int) < (t.pos u.r : Int)) = decide (t.pos u.l < t.pos u.r) := by rw [decide_eq_decide]; omega
      rw [this]
    · by_cases e : u.r = Fo.none'
      · simp [e]
      · simp [e, hr]
  · by_cases e : u.l = Fo.none'
    · simp [e]
    · simp [e, hl]
/-! ### What put wants, and what comes of it -/
theorem sum_drop {ρ : Id → Rec} {l : Fo} {q : Option Id} (h : Fo.Fits ρ q l) (m : Nat) : sumN ρ (l.tips.drop m) = (Fo.rst m l).flat.length := by
  rw [Fo.rst_sz, ← h.szs, ← List.map_drop]
  rfl
theorem sum_take {ρ : Id → Rec} {l : Fo} {q : Option Id} (h : Fo.Fits ρ q l) (m : Nat) : sumN ρ (l.tips.take m) = (Fo.fst m l).flat.length := by
  rw [Fo.fst_sz, ← h.szs, ← List.map_take]
  rfl
theorem fst_rst_len (m : Nat) (t : Fo) : (Fo.fst m t).flat.length + (Fo.rst m t).flat.length = t.sz := by
  unfold Fo.sz
  rw [← Fo.fst_rst m t, List.length_append]
theorem tips_get {t : Fo} {i : Nat} (h : i < t.tips.length) : t.tips[i] = (t.tops[i]'(by unfold Fo.tips at h; rwa [List.length_map] at h)).id := by
  simp only [Fo.tips, List.getElem_map]
theorem tops_flat : ∀ {t : Fo} {u : Un}, u ∈ t.tops → u ∈ t.flat
  | .nd v l r s, u, h => by
    show u ∈ l.flat ++ v :: r.flat ++ s.flat
    simp only [List.mem_append, List.mem_cons]
    rcases List.mem_cons.1 h with h | h
    · exact .inl (.inr (.inl h))
    · exact .inr (tops_flat h)
/-- What put is told, and what it leaves. -/
structure Puts (ρ : Id → Rec) (t : Fo) (u : Un) (rc c : List Id) (V : Where) (P : Nat) : Prop where
  hrc : u.r ∈ t.ids → ChainL ρ t.ids rc ∧ (ρ u.r).par = rc.head?
  hW : if V.left then LeftOk ρ t.ids u rc V.k ∧ V.par = some u.r else RightOk ρ t.ids t.tips t.ids u rc V.k ∧ V.par = parOf t.ids u
  hch : ChainL ρ t.ids c ∧ V.par = c.head? ∧ c.Nodup
  hP : (P : Int) = if V.left then findV t.ids t.ids u.r - (sumN ρ ((ρ u.r).L.drop V.k) : Int) else place0 t.ids t.ids V.par + (sumN ρ ((rowOf ρ t.tips V.par).take V.k) : Int)
  hPl : P ≤ t.ids.length
  ids : t.ids.take P ++ u.id :: t.ids.drop P = (Fo.put t u).ids
  tips : (if V.left then t.tips else rtR t.tips V.par ((rowOf ρ t.tips V.par).take V.k ++ u.id :: (rowOf ρ t.tips V.par).drop V.k)) = (Fo.put t u).tips
  fits : Fo.Fits (bump 1 c (laid (fset ρ u.id (newRec u)) t.tips u.id V)) none (Fo.put t u)
theorem ins_tips (p : Un → Bool) (u : Un) (t : Fo) : (Fo.insBy p u t).tips = t.tips.take (Fo.pass p t) ++ u.id :: t.tips.drop (Fo.pass p t) := by
  unfold Fo.tips
  rw [Fo.ins_tops, List.map_append, List.map_cons, List.map_take, List.map_drop]
theorem ls_at {ρ : Id → Rec} : ∀ {t : Fo} {p : Option Id} {k : Id}, Fo.LS t → t.ids.Nodup → Fo.Fits ρ p t → k ∈ t.ids → (ρ k).L.Pairwise (fun a b => Fo.lt a b = true)
  | .nil, _, _, _, _, _, h => by cases h
  | .nd v l r s, p, k, h, hn, hF, hk => by
    obtain ⟨nl, nr, ns, _⟩ := Fo.nodup_nd hn
    by_cases e : v.id = k
    · rw [← e, hF.1]
      exact h.1
    · rcases Fo.mem_nd hk e with h1 | h1 | h1
      · exact ls_at h.2.1 nl hF.2.1 h1
      · exact ls_at h.2.2.1 nr hF.2.2.1 h1
      · exact ls_at h.2.2.2 ns hF.2.2.2 h1
theorem sorted_ge {S : List Id} {x : Id} (h : S.Pairwise (fun a b => Fo.lt a b = true)) (hx : x ∉ S) : ∀ i (hi : i < S.length), (S.takeWhile (fun a => Fo.lt a x)).length ≤ i → Fo.lt x S[i] = true := fun i hi hle => by
  have hm : (S.takeWhile (fun a => Fo.lt a x)).length < S.length := by omega
  have h1 := Fo.tw_eq hm rfl
  have h2 : S[(S.takeWhile (fun a => Fo.lt a x)).length] ≠ x := fun e => hx (e ▸ List.getElem_mem hm)
  have h3 := Fo.lt_total h1 h2
  rcases Nat.eq_or_lt_of_le hle with e | hlt
  · simp only [← e]
    exact h3
  · exact Fo.lt_trans h3 (List.pairwise_iff_getElem.1 h _ _ hm hi hlt)
theorem sorted_lt {S : List Id} {x : Id} : ∀ i (hi : i < S.length), i + 1 = (S.takeWhile (fun a => Fo.lt a x)).length → Fo.lt x S[i] = false := fun i hi he => Fo.lt_asymm (Fo.tw_lt (p := fun a => Fo.lt a x) hi (by omega))
theorem laid_far {ρ : Id → Rec} {rt : List Id} {x j : Id} {r : Rec} {V : Where} (h1 : j ≠ x) (h2 : ∀ p, V.par = some p → j ≠ p) : laid (fset ρ x r) rt x V j = ρ j := by
  unfold laid recR
  cases e : V.par with
  | none =>
    split
    · exact fset_ne h1
    · dsimp only
      rw [fset_ne h1, fset_ne h1]
  | some p =>
    have := h2 p e
    split <;> (dsimp only; rw [fset_ne this, fset_ne h1, fset_ne h1])
theorem laid_new {ρ : Id → Rec} {rt : List Id} {u : Un} {V : Where} (h1 : V.left = true → ∃ p, V.par = some p) (h2 : ∀ p, V.par = some p → u.id ≠ p) : laid (fset ρ u.id (newRec u)) rt u.id V u.id = ⟨u, V.par, [], [], 1⟩ := by
  unfold laid recR
  cases e : V.par with
  | none =>
    split
    · rename_i hl
      obtain ⟨p, h⟩ := h1 hl
      rw [e] at h
      cases h
    · dsimp only
      rw [fset_same, fset_same]
      rfl
  | some p =>
    have := h2 p e
    split <;> (dsimp only; rw [fset_ne this, fset_same, fset_same]; rfl)
theorem bump_out {d : Nat} {c : List Id} {ρ : Id → Rec} {j : Id} (h : j ∉ c) : bump d c ρ j = ρ j := by
  unfold bump
  rw [if_neg h]
  rfl
theorem puts_left {ρ : Id → Rec} {t : Fo} {u : Un} (hg : Fo.Good t) (hF : Fo.Fits ρ none t) (hm : Fo.Can t u) (hL : Fo.isL t u = true) : ∃ rc c V P, Puts ρ t u rc c V P := by
  have hL' := hL
  unfold Fo.isL at hL'
  simp only [Bool.and_eq_true, Bool.or_eq_true, Bool.not_eq_true', decide_eq_true_eq, decide_eq_false_iff_not] at hL'
  obtain ⟨hr, hl⟩ := hL'
  obtain ⟨A, B, v, l, r, hv, hf, hp, hsp⟩ := Fo.put_left hg.nd hL hr
  obtain ⟨⟨q, h1⟩, hFl, hFr⟩ := hsp ρ none hF
  have hxl : u.id ∉ l.ids := fun h => hm.new ((Fo.mem_split hf).1 _ h)
  have hxk : u.r ≠ u.id := fun e => hm.new (e ▸ hr)
  have hxc : u.id ∉ u.r :: Fo.upL t u.r := fun h => (List.mem_cons.1 h).elim (fun e => hxk e.symm) fun h => hm.new (Fo.upL_sub h)
  have hsz := sub_sz hf
  have hpos := Fo.pos_split hg.nd hf
  rw [hv] at hpos
  have hfl := fst_rst_len (Fo.pass (fun a => Fo.lt a.id u.id) l) l
  have htw := Fo.pass_tips (fun a => Fo.lt a u.id) l
  have hLe : (ρ u.r).L = l.tips := by rw [h1]
  have hls := ls_at hg.ls hg.nd hF hr
  rw [hLe] at hls
  have hxt : u.id ∉ l.tips := fun h => hxl (Fo.tips_ids h)
  refine ⟨Fo.upL t u.r, u.r :: Fo.upL t u.r, ⟨true, some u.r, Fo.pass (fun a => Fo.lt a.id u.id) l⟩, (A ++ (Fo.fst (Fo.pass (fun a => Fo.lt a.id u.id) l) l).flat).length, ?_⟩
  refine ⟨fun _ => ⟨chain_up hg.nd hF _ _ rfl, par_up hg.nd hF hr⟩, ?_, ⟨⟨hr, par_up hg.nd hF hr, chain_up hg.nd hF _ _ rfl⟩, rfl, List.nodup_cons.2 ⟨Fo.upL_self hg.nd, Fo.upL_nodup _ hg.nd⟩⟩, ?_, ?_, ?_, ?_, ?_⟩
  · rw [if_pos rfl]
    refine ⟨⟨hr, fun h => hl.resolve_left (fun h' => h' h), ?_, ?_, ?_⟩, rfl⟩
    · rw [hLe, htw]
      exact (List.takeWhile_prefix _).length_le
    · rw [hLe, htw]
      exact sorted_ge hls hxt
    · rw [hLe, htw]
      exact sorted_lt
  · rw [if_pos rfl, findV_pos hr, hLe]
    dsimp only
    rw [sum_drop hFl, List.length_append]
    omega
  · rw [Fo.ids_len, List.length_append]
    omega
  · refine (Fo.ids_at (B := (Fo.rst (Fo.pass (fun a => Fo.lt a.id u.id) l) l).flat ++ v :: r.flat ++ B) ?_ ?_).symm
    · rw [hf]
      conv => lhs; rw [← Fo.fst_rst (Fo.pass (fun a => Fo.lt a.id u.id) l) l]
      simp
    · rw [hp]
      simp
  · rw [if_pos rfl]
    unfold Fo.put
    rw [if_pos hL, Fo.mod_tips]
  · have hfar : ∀ j ∈ t.ids, j ≠ u.r → laid (fset ρ u.id (newRec u)) t.tips u.id ⟨true, some u.r, Fo.pass (fun a => Fo.lt a.id u.id) l⟩ j = ρ j := fun j hj hjr => laid_far (fun e => hm.new (e ▸ hj)) (fun p e => by cases e; exact hjr)
    unfold Fo.put
    rw [if_pos hL]
    refine Fo.Fits.mod (d := 1) (ρ := ρ) (fun l r => by rw [sz_ins]; show _ + r.sz = _; omega) hg.nd hr hF ?_ ?_
    · intro l' r' v' q' hv' hl' hr' fl fr
      have hst : ∀ j, (j ∈ t.ids ∧ j ≠ u.r ∧ j ∉ Fo.upL t u.r) → bump 1 (u.r :: Fo.upL t u.r) (laid (fset ρ u.id (newRec u)) t.tips u.id ⟨true, some u.r, Fo.pass (fun a => Fo.lt a.id u.id) l⟩) j = ρ j := fun j hj => by
        rw [bump_out (fun h => (List.mem_cons.1 h).elim hj.2.1 hj.2.2)]
        exact hfar j hj.1 hj.2.1
      refine ⟨?_, fits_ins fl (fun j hj => hst j (hl' j hj)) ?_, fr.congr fun j hj => hst j (hr' j hj)⟩
      · have e1 : l'.tips = l.tips := by
          have := hv'.symm.trans h1
          injection this
        rw [ins_tips, Fo.pass_tips (fun a => Fo.lt a u.id) l', e1, ← htw]
        unfold bump laid
        rw [if_pos rfl, if_pos (List.mem_cons_self ..)]
        dsimp only
        rw [fset_same, fset_ne hxk, hv', e1]
        rfl
      · rw [bump_out hxc]
        exact laid_new (fun _ => ⟨_, rfl⟩) (fun p e => by cases e; exact Ne.symm hxk)
    · intro j hj hjr
      unfold bump
      rw [hfar j hj hjr]
      have : (j ∈ u.r :: Fo.upL t u.r) ↔ j ∈ Fo.upL t u.r := by rw [List.mem_cons]; exact ⟨fun h => h.resolve_left hjr, .inr⟩
      simp only [this]
theorem tops_of {ρ : Id → Rec} : ∀ {t : Fo} {p : Option Id}, Fo.Fits ρ p t → t.tops = t.tips.map (fun j => (ρ j).u)
  | .nil, _, _ => rfl
  | .nd v l r s, p, h => by
    show v :: s.tops = (ρ v.id).u :: s.tips.map (fun j => (ρ j).u)
    rw [h.1, ← tops_of h.2.2.2]
theorem row_k {ρ : Id → Rec} {t r : Fo} {u : Un} (hg : Fo.Good t) (hF : Fo.Fits ρ none t) (hm : Fo.Can t u) (hs : ∀ v ∈ r.flat, v ∈ t.flat) : Fo.pass (fun a => Fo.ahead t a u) r ≤ r.tips.length ∧
    (∀ i (hi : i < r.tips.length), i < Fo.pass (fun a => Fo.ahead t a u) r → aheadV t.ids t.ids (ρ r.tips[i]).u u = true) ∧ (∀ i (hi : i < r.tips.length), i = Fo.pass (fun a => Fo.ahead t a u) r → aheadV t.ids t.ids (ρ r.tips[i]).u u = false) := by
  have hlen : r.tips.length = r.tops.length := by unfold Fo.tips; rw [List.length_map]
  have key : ∀ i (hi : i < r.tips.length), aheadV t.ids t.ids (ρ r.tips[i]).u u = Fo.ahead t (r.tops[i]'(hlen ▸ hi)) u := fun i hi => by
    have hv := hs _ (tops_flat (List.getElem_mem (hlen ▸ hi)))
    rw [tips_get hi, hF.rec_u _ hv, aheadV_eq (hg.org _ hv).2 hm.r]
  refine ⟨by rw [hlen]; exact Fo.pass_le _ _, fun i hi hk => ?_, fun i hi hk => ?_⟩
  · rw [key i hi]
    exact Fo.tw_lt (p := fun a => Fo.ahead t a u) _ hk
  · rw [key i hi]
    exact Fo.tw_eq (p := fun a => Fo.ahead t a u) _ hk
theorem puts_right_l {ρ : Id → Rec} {t : Fo} {u : Un} (hg : Fo.Good t) (hF : Fo.Fits ρ none t) (hm : Fo.Can t u) (hL : Fo.isL t u = false) (hl : u.l ∈ t.ids) : ∃ k P, Puts ρ t u (Fo.upL t u.r) (u.l :: Fo.upL t u.l) ⟨false, some u.l, k⟩ P := by
  have hLr : u.r ∈ t.ids → u.l ∈ t.ids ∧ u.l ∉ Fo.upL t u.r := fun hr => by
    unfold Fo.isL at hL
    simp only [hr, decide_true, Bool.true_and, Bool.or_eq_false_iff, Bool.not_eq_false', decide_eq_true_eq, decide_eq_false_iff_not] at hL
    exact hL
  obtain ⟨A, B, v, l, r, hv, hf, hp, hsp⟩ := Fo.put_right hg.nd hL hl
  obtain ⟨⟨q, h1⟩, hFl, hFr⟩ := hsp ρ none hF
  have hxk : u.l ≠ u.id := fun e => hm.new (e ▸ hl)
  have hxc : u.id ∉ u.l :: Fo.upL t u.l := fun h => (List.mem_cons.1 h).elim (fun e => hxk e.symm) fun h => hm.new (Fo.upL_sub h)
  have hsz := sub_sz hf
  have hpos := Fo.pos_split hg.nd hf
  rw [hv] at hpos
  have hfl := fst_rst_len (Fo.pass (fun a => Fo.ahead t a u) r) r
  have hRe : rowOf ρ t.tips (some u.l) = r.tips := by show (ρ u.l).R = _; rw [h1]
  have hrow := row_k hg hF hm (r := r) (fun w hw => by
    rw [hf]
    simp only [List.mem_append, List.mem_cons]
    exact .inl (.inr (.inr hw)))
  have hpar : parOf t.ids u = some u.l := if_pos hl
  refine ⟨Fo.pass (fun a => Fo.ahead t a u) r, (A ++ l.flat ++ v :: (Fo.fst (Fo.pass (fun a => Fo.ahead t a u) r) r).flat).length, ?_⟩
  have hlen : (A ++ l.flat ++ v :: (Fo.fst (Fo.pass (fun a => Fo.ahead t a u) r) r).flat).length = A.length + l.sz + 1 + (Fo.fst (Fo.pass (fun a => Fo.ahead t a u) r) r).flat.length := by
    unfold Fo.sz
    simp only [List.length_append, List.length_cons]
    omega
  refine ⟨fun hr => ⟨chain_up hg.nd hF _ _ rfl, par_up hg.nd hF hr⟩, ?_, ⟨⟨hl, par_up hg.nd hF hl, chain_up hg.nd hF _ _ rfl⟩, rfl, List.nodup_cons.2 ⟨Fo.upL_self hg.nd, Fo.upL_nodup _ hg.nd⟩⟩, ?_, ?_, ?_, ?_, ?_⟩
  · rw [if_neg (by simp)]
    refine ⟨⟨hLr, ?_, ?_, ?_⟩, hpar.symm⟩
    · rw [hpar, hRe]
      exact hrow.1
    · rw [hpar, hRe]
      exact hrow.2.1
    · rw [hpar, hRe]
      exact hrow.2.2
  · rw [if_neg (by simp), hRe, hlen]
    dsimp only [place0]
    rw [findV_pos hl, sum_take hFr]
    omega
  · rw [Fo.ids_len, hlen]
    omega
  · refine (Fo.ids_at (B := (Fo.rst (Fo.pass (fun a => Fo.ahead t a u) r) r).flat ++ B) ?_ ?_).symm
    · rw [hf]
      conv => lhs; rw [← Fo.fst_rst (Fo.pass (fun a => Fo.ahead t a u) r) r]
      simp
    · rw [hp]
      simp
  · rw [if_neg (by simp)]
    unfold Fo.put
    rw [hL, if_neg (by simp), if_pos hl, Fo.mod_tips]
    rfl
  · have hfar : ∀ j ∈ t.ids, j ≠ u.l → laid (fset ρ u.id (newRec u)) t.tips u.id ⟨false, some u.l, Fo.pass (fun a => Fo.ahead t a u) r⟩ j = ρ j := fun j hj hjr => laid_far (fun e => hm.new (e ▸ hj)) (fun p e => by cases e; exact hjr)
    unfold Fo.put
    rw [hL, if_neg (by simp), if_pos hl]
    refine Fo.Fits.mod (d := 1) (ρ := ρ) (fun l r => by rw [sz_ins]; show l.sz + _ = _; omega) hg.nd hl hF ?_ ?_
    · intro l' r' v' q' hv' hl' hr' fl fr
      have hst : ∀ j, (j ∈ t.ids ∧ j ≠ u.l ∧ j ∉ Fo.upL t u.l) → bump 1 (u.l :: Fo.upL t u.l) (laid (fset ρ u.id (newRec u)) t.tips u.id ⟨false, some u.l, Fo.pass (fun a => Fo.ahead t a u) r⟩) j = ρ j := fun j hj => by
        rw [bump_out (fun h => (List.mem_cons.1 h).elim hj.2.1 hj.2.2)]
        exact hfar j hj.1 hj.2.1
      refine ⟨?_, fl.congr fun j hj => hst j (hl' j hj), fits_ins fr (fun j hj => hst j (hr' j hj)) ?_⟩
      · have e1 : r'.tips = r.tips := by
          have := hv'.symm.trans h1
          injection this
        have e2 : r'.tops = r.tops := by rw [tops_of fr, tops_of hFr, e1]
        have e3 : Fo.pass (fun a => Fo.ahead t a u) r' = Fo.pass (fun a => Fo.ahead t a u) r := by unfold Fo.pass; rw [e2]
        rw [ins_tips, e3, e1]
        unfold bump laid recR
        rw [if_neg (by simp), if_pos (List.mem_cons_self ..)]
        dsimp only [rowOf]
        rw [fset_same, fset_ne hxk, fset_ne hxk, hv', e1]
        rfl
      · rw [bump_out hxc]
        exact laid_new (fun h => by cases h) (fun p e => by cases e; exact Ne.symm hxk)
    · intro j hj hjr
      unfold bump
      rw [hfar j hj hjr]
      have : (j ∈ u.l :: Fo.upL t u.l) ↔ j ∈ Fo.upL t u.l := by rw [List.mem_cons]; exact ⟨fun h => h.resolve_left hjr, .inr⟩
      simp only [this]
theorem puts_right {ρ : Id → Rec} {t : Fo} {u : Un} (hg : Fo.Good t) (hF : Fo.Fits ρ none t) (hm : Fo.Can t u) (hL : Fo.isL t u = false) : ∃ rc c V P, Puts ρ t u rc c V P := by
  have hLr : u.r ∈ t.ids → u.l ∈ t.ids ∧ u.l ∉ Fo.upL t u.r := fun hr => by
    unfold Fo.isL at hL
    simp only [hr, decide_true, Bool.true_and, Bool.or_eq_false_iff, Bool.not_eq_false', decide_eq_true_eq, decide_eq_false_iff_not] at hL
    exact hL
  by_cases hl : u.l ∈ t.ids
  · obtain ⟨k, P, h⟩ := puts_right_l hg hF hm hL hl
    exact ⟨_, _, _, _, h⟩
  · have hp := Fo.put_root hL hl
    have hrow := row_k hg hF hm (r := t) (fun w hw => hw)
    have hpar : parOf t.ids u = none := if_neg hl
    have hfl := fst_rst_len (Fo.pass (fun a => Fo.ahead t a u) t) t
    refine ⟨Fo.upL t u.r, [], ⟨false, none, Fo.pass (fun a => Fo.ahead t a u) t⟩, (Fo.fst (Fo.pass (fun a => Fo.ahead t a u) t) t).flat.length, ?_⟩
    refine ⟨fun hr => ⟨chain_up hg.nd hF _ _ rfl, par_up hg.nd hF hr⟩, ?_, ⟨trivial, rfl, List.nodup_nil⟩, ?_, ?_, ?_, ?_, ?_⟩
    · rw [if_neg (by simp)]
      refine ⟨⟨hLr, ?_, ?_, ?_⟩, hpar.symm⟩
      · rw [hpar]
        exact hrow.1
      · rw [hpar]
        exact hrow.2.1
      · rw [hpar]
        exact hrow.2.2
    · rw [if_neg (by simp)]
      dsimp only [place0, rowOf]
      rw [sum_take hF]
      omega
    · rw [Fo.ids_len]
      omega
    · exact (Fo.ids_at (Fo.fst_rst _ t).symm hp).symm
    · rw [if_neg (by simp)]
      unfold Fo.put
      rw [hL, if_neg (by simp), if_neg hl, ins_tips]
      rfl
    · unfold Fo.put
      rw [hL, if_neg (by simp), if_neg hl, bump_nil]
      exact fits_ins hF (fun j hj => laid_far (fun e => hm.new (e ▸ hj)) (fun p e => by cases e)) (laid_new (fun h => by cases h) (fun p e => by cases e))
theorem puts {ρ : Id → Rec} {t : Fo} {u : Un} (hg : Fo.Good t) (hF : Fo.Fits ρ none t) (hm : Fo.Can t u) : ∃ rc c V P, Puts ρ t u rc c V P := by
  cases hL : Fo.isL t u with
  | true => exact puts_left hg hF hm hL
  | false => exact puts_right hg hF hm hL
/-! ### A sequence in memory -/
/-- At p lies the sequence of this tree; these blocks are its own. -/
def SqAt (w : World) (p : Nat) (F : Nat → Prop) (t : Fo) : Prop := ∃ E ρ, E.p = p ∧ (∀ g, F g ↔ E.tg g ≠ .other) ∧ (∀ g, w.heap.size ≤ g → E.tg g = .other) ∧ Core w E t.ids t.tips t.ids t.ids ρ ∧ Fo.Fits ρ none t ∧ Fo.Good t
/-- Only its own blocks have turned; there may be new ones. -/
structure Turn (F F' : Nat → Prop) (w w' : World) : Prop where
  os : w'.os = w.os
  tape : w'.tape = w.tape
  output : w'.output = w.output
  size : w.heap.size ≤ w'.heap.size
  own : ∀ g, g < w.heap.size → (F' g ↔ F g)
  block : ∀ g, g < w.heap.size → ¬ F g → w'.heap[g]? = w.heap[g]?
theorem Core.congr {E : Env} {w : World} {ord rt N D N' D' : List Id} {ρ : Id → Rec} (h : Core w E ord rt N D ρ) (hN : ∀ j, j ∈ N' → j ∈ N) (hD : ∀ j, j ∈ D' ↔ j ∈ D) : Core w E ord rt N' D' ρ := by
  obtain ⟨es, h1, h2⟩ := h.all
  exact ⟨h.tp, h.tma, h.tmt, h.seq, ⟨es, h1, fun k => by rw [h2]; simp only [hD]⟩, fun j hj => h.nodes j (hN j hj)⟩
theorem SqAt.good {w : World} {p : Nat} {F : Nat → Prop} {t : Fo} (h : SqAt w p F t) : Fo.Good t := by
  obtain ⟨E, ρ, _, _, _, _, _, hg⟩ := h
  exact hg
theorem SqAt.lt {w : World} {p : Nat} {F : Nat → Prop} {t : Fo} (h : SqAt w p F t) {g : Nat} (hg : F g) : g < w.heap.size := by
  obtain ⟨E, ρ, _, hF, hf, _⟩ := h
  rcases Nat.lt_or_ge g w.heap.size with h1 | h1
  · exact h1
  · exact absurd (hf g h1) ((hF g).1 hg)
/-- What happens elsewhere leaves it. -/
theorem SqAt.kept {w w' : World} {p : Nat} {F : Nat → Prop} {t : Fo} (h : SqAt w p F t) (hos : w'.os = w.os) (htape : w'.tape = w.tape) (hout : w'.output = w.output) (hs : w.heap.size ≤ w'.heap.size) (hb : ∀ g, F g → w'.heap[g]? = w.heap[g]?) : SqAt w' p F t := by
  obtain ⟨E, ρ, h1, hF, hf, hc, h2, h3⟩ := h
  refine ⟨E, ρ, h1, hF, fun g hg => hf g (Nat.le_trans hs hg), ?_, h2, h3⟩
  exact hc.kept (S := fun t => t = .other) ⟨hos, htape, hout, hs, fun g _ h => hb g ((hF g).2 h)⟩ (fun t ht => ht)
theorem SqAt.below {w w' : World} {p : Nat} {F : Nat → Prop} {t : Fo} (h : SqAt w p F t) (hb : Below w.heap.size w w') : SqAt w' p F t := h.kept hb.os hb.tape hb.output hb.size fun g hg => hb.block g (h.lt hg)
theorem Turn.refl (F : Nat → Prop) (w : World) : Turn F F w w := ⟨rfl, rfl, rfl, Nat.le_refl _, fun _ _ => Iff.rfl, fun _ _ _ => rfl⟩
theorem Turn.trans {F F' F'' : Nat → Prop} {x y z : World} (h : Turn F F' x y) (k : Turn F' F'' y z) : Turn F F'' x z :=
  ⟨k.os.trans h.os, k.tape.trans h.tape, k.output.trans h.output, Nat.le_trans h.size k.size, fun g hg => (k.own g (Nat.lt_of_lt_of_le hg h.size)).trans (h.own g hg), fun g hg hn => (k.block g (Nat.lt_of_lt_of_le hg h.size) (fun hf => hn ((h.own g hg).1 hf))).trans (h.block g hg hn)⟩
theorem Turn.of {F : Nat → Prop} {w w' : World} (h : Below w.heap.size w w') : Turn F F w w' := ⟨h.os, h.tape, h.output, h.size, fun _ _ => Iff.rfl, fun g hg _ => h.block g hg⟩
theorem Turn.kept {E : Env} {F : Nat → Prop} {S : Tag → Prop} {w w' : World} (hF : ∀ g, F g ↔ E.tg g ≠ .other) (h : Kept E S w w') (hs : ∀ t, S t → t ≠ .other) : Turn F F w w' :=
  ⟨h.os, h.tape, h.output, h.size, fun _ _ => Iff.rfl, fun g hg hn => h.block g hg fun hS => hn ((hF g).2 (hs _ hS))⟩
/-- Another sequence, that has nothing of it, stays. -/
theorem SqAt.other {w w' : World} {p : Nat} {F G G' : Nat → Prop} {t : Fo} (h : SqAt w p F t) (hT : Turn G G' w w') (hd : ∀ g, F g → ¬ G g) : SqAt w' p F t :=
  h.kept hT.os hT.tape hT.output hT.size fun g hg => hT.block g (h.lt hg) (hd g hg)
theorem Turn.apart {F G G' : Nat → Prop} {w w' : World} (hT : Turn G G' w w') (hF : ∀ g, F g → g < w.heap.size) (hd : ∀ g, F g → ¬ G g) : ∀ g, F g → ¬ G' g := fun g hg h => hd g hg ((hT.own g (hF g hg)).1 h)
end Sq
namespace Sq
open Go Go.RowKit Sx Tl
section rules
variable {P : Program} {rd : Option Nat} {n : Nat} {ops : Array Oper} {Q : Post} {rest : List Oper} {F : Fr} {ds : List Deferred} {w : World} {ty : TypeId} {pos : String} {after : Array Edge}
theorem Lst_makemap {d : Nat} {t : TypeId} (hd : Nat.blt d n = true) (h : Lst P rd n ops Q rest (upd F d (.map (some w.heap.size))) ds (w.alloc (.map #[] 0))) : Lst P rd n ops Q (⟨some d, .makeMap t none, ty, pos, after, none⟩ :: rest) F ds w :=
  Lst_value rfl (by simp [execOp, Instr.makeMap]) hd h
end rules
attribute [local irreducible] W Lst Qst Pu seqQ blkQ rndQ cutQ retQ Does Enters IntKind.wrap bits sb World.alloc World.putObj Blk
theorem c_Insert (u : Un) (p : Nat) (F : Nat → Prop) (t : Fo) (w : World) (hs : t.sz ≤ 1000000000 - 1) (h : SqAt w p F t) :
    Does Tryz.prog 27 #[.pointer (some ⟨p, 0, none⟩), .agg (ucs u).toArray] w fun v w' => v = .bool (Fo.may t u) ∧ ∃ F', SqAt w' p F' (Fo.insert t u).1 ∧ Turn F F' w w' := by
  refine Does_of (args := [.pointer (some ⟨p, 0, none⟩), .agg (ucs u).toArray]) Tryz.func27 (by kernel_rfl) rfl rfl rfl rfl rfl ?_
  have hbX : Below w.heap.size w (w.alloc (.cells (ucs u).toArray 52)) := Bel
  have kX : Blk (w.alloc (.cells (ucs u).toArray 52)) w.heap.size (ucs u) 52 := (by (repeat (first | assumption | (apply Blk.below (hb := hb1); rotate_left; (focus ((try simp only [Sx.sizes]); omega)); rotate_right) | (apply Blk.below (hb := hb2); rotate_left; (focus ((try simp only [Sx.sizes]); omega)); rotate_right) | (apply Blk.below (hb := hb3); rotate_left; (focus ((try simp only [Sx.sizes]); omega)); rotate_right) | (apply Blk.below (hb := hb4); rotate_left; (focus ((try simp only [Sx.sizes]); omega)); rotate_right) | (apply Blk.below (hb := hb5); rotate_left; (focus ((try simp only [Sx.sizes]); omega)); rotate_right) | (apply Blk.below (hb := hb6); rotate_left; (focus ((try simp only [Sx.sizes]); omega)); rotate_right) | (apply Blk.below (hb := hb7); rotate_left; (focus ((try simp only [Sx.sizes]); omega)); rotate_right) | (apply Blk.below (hb := hb8); rotate_left; (focus ((try simp only [Sx.sizes]); omega)); rotate_right) | (apply Blk.below (hb := hb9); rotate_left; (focus ((try simp only [Sx.sizes]); omega)); rotate_right) | exact Blk.newE (by first | rfl | ((try simp only [Sx.sizes]); first | done | omega)) _ _ | exact Blk.put_same (by (try simp only [Sx.sizes]); first | done | omega) _ _ | (apply Blk.put_ne; (focus omega)) | apply Blk.alloc | apply Blk.drew)); done)
  have hX := h.below hbX
  obtain ⟨E, ρ, hp, hF, hfar, hc, hft, hg⟩ := hX
  have hfw : E.tg w.heap.size = .other := by
    have h1 : ¬ F w.heap.size := fun hf => by have := h.lt hf; omega
    have h2 := fun hne => h1 ((hF _).2 hne)
    exact Classical.byContradiction h2
  have hlen : t.ids.length ≤ 1000000000 - 1 := by rw [Fo.ids_len]; exact hs
  have hN : ∀ j ∈ t.ids, j ∈ t.ids ∧ (ρ j).u.id = j := fun j hj => ⟨hj, fits_u hft j hj⟩
  (refine Ga ?_)
  (apply Lst_call; (focus rfl); (focus rfl))
  have hm := c_may u hfar (fun _ => Iff.rfl) hN hg.nd (by omega) hc
  rw [hp] at hm
  refine hm.mono ?_
  clear hm
  rintro v w2 ⟨rfl, h2, hk2⟩
  rw [mayV_eq]
  have k2 := hk2.blk kX (by rw [hfw]; simp)
  have hT2 : Turn F F w w2 := (Turn.of hbX).trans (.kept hF hk2 fun t ht => by rcases ht with rfl | rfl <;> simp)
  have hfar2 : ∀ g, w2.heap.size ≤ g → E.tg g = .other := fun g hg => hfar g (Nat.le_trans hk2.size hg)
  clear kX hc hfar hbX hk2
  cases hmay : Fo.may t u with
  | false =>
    have hi : (Fo.insert t u).1 = t := by unfold Fo.insert; rw [hmay]; rfl
    (refine Ga ?_)
    (apply retQ1; (focus rfl))
    rw [hi]
    exact ⟨rfl, F, ⟨E, ρ, hp, hF, hfar2, h2, hft, hg⟩, hT2⟩
  | true =>
    have hM := Fo.may_iff.1 hmay
    have hi : (Fo.insert t u).1 = Fo.put t u := by unfold Fo.insert; rw [hmay]; rfl
    obtain ⟨rc, c, V, P, hP⟩ := puts hg hft hM.toCan
    unfold ucs at k2
    (refine Ga ?_)
    (apply Lst_call; (focus rfl); (focus rfl))
    have hput := c_put u rc c V P hfar2 (fits_clo hg.nd hft) (fits_sizes hg.nd hft hs) (fits_selfs hg.nd hft) hM.new (fun _ => Iff.rfl) hN hg.nd hlen h2 hP.hrc hP.hW hP.hch hP.hP hP.hPl
    rw [hp] at hput
    refine hput.mono ?_
    rintro v w3 ⟨rfl, E', hE1, hE2, hE3, hk3, h3⟩
    (refine Ga ?_)
    (apply retQ1; (focus rfl))
    rw [hi]
    refine ⟨rfl, fun g => E'.tg g ≠ .other, ⟨E', _, hE1, fun _ => Iff.rfl, hE3, ?_, hP.fits, hg.put hM.toCan⟩, hT2.trans ⟨hk3.os, hk3.tape, hk3.output, hk3.size, fun g hg => ?_, fun g hg hn => hk3.block g hg fun h => hn ((hF g).2 h)⟩⟩
    · rw [← hP.ids, ← hP.tips]
      refine h3.congr (fun j hj => ?_) (fun j => ?_)
      · rw [hP.ids] at hj
        exact List.mem_cons.2 ((Fo.put_ids hg.nd j).1 hj)
      · rw [hP.ids, Fo.put_ids hg.nd, List.mem_cons]
    · rw [hE2 g hg, hF]
/-- One that has no units. -/
theorem c_New (w : World) : Does Tryz.prog 19 #[] w fun v w' => ∃ p F, v = .pointer (some ⟨p, 0, none⟩) ∧ SqAt w' p F .nil ∧ (∀ g, F g → w.heap.size ≤ g) ∧ Below w.heap.size w w' := by
  refine Does_of (args := []) Tryz.func19 (by kernel_rfl) rfl rfl rfl rfl rfl ?_
  (refine Ga ?_)
  apply Lst_makemap
  focus rfl
  (refine Ga ?_)
  apply Lst_makemap
  focus rfl
  (refine Ga ?_)
  obtain ⟨X, hXe⟩ : ∃ X, ((w.alloc (.map #[] 0)).alloc (.map #[] 0)).alloc (.cells [.map (some w.heap.size), .slice none 0 0, .slice none 0 0, .map (some (w.heap.size + 1)), .bool true].toArray 83) = X := ⟨_, rfl⟩
  have hbX : Below w.heap.size w X := by rw [← hXe]; exact Bel
  have hsX : X.heap.size = w.heap.size + 3 := by rw [← hXe]; simp only [Sx.sizes]
  have h1 : SxG.MpAt idv X w.heap.size RP [] := by
    rw [← hXe]
    refine (SxG.MpAt.new (ky := idv) w RP).mono ?_ (fun _ _ h => h)
    exact (Below.heap_alloc _ _ _ (by simp only [World.size_alloc]; omega)).trans (Below.heap_alloc _ _ _ (by simp))
  have h2 : SxG.MpAt idv X (w.heap.size + 1) RI [] := by
    rw [← hXe]
    have := (SxG.MpAt.new (ky := idv) (w.alloc (.map #[] 0)) RI)
    rw [World.size_alloc] at this
    exact this.mono (Below.heap_alloc _ _ _ (by simp)) (fun _ _ h => h)
  have h3 : Blk X (w.heap.size + 2) [.map (some w.heap.size), .slice none 0 0, .slice none 0 0, .map (some (w.heap.size + 1)), .bool true] 83 := by rw [← hXe]; exact (by (repeat (first | assumption | (apply Blk.below (hb := hb1); rotate_left; (focus ((try simp only [Sx.sizes]); omega)); rotate_right) | (apply Blk.below (hb := hb2); rotate_left; (focus ((try simp only [Sx.sizes]); omega)); rotate_right) | (apply Blk.below (hb := hb3); rotate_left; (focus ((try simp only [Sx.sizes]); omega)); rotate_right) | (apply Blk.below (hb := hb4); rotate_left; (focus ((try simp only [Sx.sizes]); omega)); rotate_right) | (apply Blk.below (hb := hb5); rotate_left; (focus ((try simp only [Sx.sizes]); omega)); rotate_right) | (apply Blk.below (hb := hb6); rotate_left; (focus ((try simp only [Sx.sizes]); omega)); rotate_right) | (apply Blk.below (hb := hb7); rotate_left; (focus ((try simp only [Sx.sizes]); omega)); rotate_right) | (apply Blk.below (hb := hb8); rotate_left; (focus ((try simp only [Sx.sizes]); omega)); rotate_right) | (apply Blk.below (hb := hb9); rotate_left; (focus ((try simp only [Sx.sizes]); omega)); rotate_right) | exact Blk.newE (by first | rfl | ((try simp only [Sx.sizes]); first | done | omega)) _ _ | exact Blk.put_same (by (try simp only [Sx.sizes]); first | done | omega) _ _ | (apply Blk.put_ne; (focus omega)) | apply Blk.alloc | apply Blk.drew)); done)
  (apply retQ1; (focus rfl))
  refine ⟨w.heap.size + 2, fun g => (if g = w.heap.size then Tag.all else if g = w.heap.size + 1 then Tag.at' else if g = w.heap.size + 2 then Tag.seq else Tag.other) ≠ .other, ?_, ?_, fun g hg => ?_, ?_⟩
  · simp only [World.size_alloc]
    rfl
  · have e : ((w.alloc (.map #[] 0)).alloc (.map #[] 0)).alloc (.cells [.map (some w.heap.size), .slice none 0 0, .slice none 0 0, .map (some (w.alloc (.map #[] 0)).heap.size), .bool true].toArray 83) = X := by rw [World.size_alloc]; exact hXe
    refine cast (congrArg (fun z => SqAt z _ _ _) e.symm) ?_
    refine ⟨⟨w.heap.size + 2, w.heap.size, w.heap.size + 1, fun _ => 0, fun g => if g = w.heap.size then .all else if g = w.heap.size + 1 then .at' else if g = w.heap.size + 2 then .seq else .other⟩, fun k => ⟨default, none, [], [], 0⟩, rfl, fun _ => Iff.rfl, fun g hg => ?_, ⟨?_, ?_, ?_, ⟨.slice none 0 0, .slice none 0 0, true, [], h3, ⟨⟨rfl, .inl ⟨rfl, rfl⟩⟩, fun g hg => by cases hg⟩, ⟨⟨rfl, .inl ⟨rfl, rfl⟩⟩, fun g hg => by cases hg⟩, h2, fun _ k hk => by cases hk⟩, ⟨[], h1, fun k => rfl⟩, fun k hk => by cases hk⟩, trivial, Fo.Good.nil⟩
    · dsimp only
      rw [if_neg (by omega), if_neg (by omega), if_neg (by omega)]
    · dsimp only
      rw [if_neg (by omega), if_neg (by omega), if_pos rfl]
    · dsimp only
      rw [if_pos rfl]
    · dsimp only
      rw [if_neg (by omega), if_pos rfl]
  · dsimp only at hg
    rcases Nat.lt_or_ge g w.heap.size with h | h
    · rw [if_neg (by omega), if_neg (by omega), if_neg (by omega)] at hg
      exact absurd rfl hg
    · exact h
  · exact Bel
theorem fits_ord {ρ : Id → Rec} {t : Fo} (hF : Fo.Fits ρ none t) (n : Nat) (hn : n < t.sz) : (ρ (t.ids.getD n (0, 0))).u = t.flat.getD n default := by
  have h1 : n < t.flat.length := hn
  have h2 : n < t.ids.length := by rw [Fo.ids_len]; exact hn
  rw [List.getD_eq_getElem?_getD, List.getD_eq_getElem?_getD, List.getElem?_eq_getElem h1, List.getElem?_eq_getElem h2]
  have h3 : t.ids[n] = (t.flat[n]).id := by simp only [Fo.ids, List.getElem_map]
  show (ρ t.ids[n]).u = t.flat[n]
  rw [h3]
  exact hF.rec_u _ (List.getElem_mem h1)
theorem s_Len {p : Nat} {F : Nat → Prop} {t : Fo} {w : World} (h : SqAt w p F t) : Does Tryz.prog 29 #[.pointer (some ⟨p, 0, none⟩)] w fun v w' => v = .int .i64 (t.sz : Int) ∧ w = w' := by
  obtain ⟨E, ρ, rfl, hF, hfar, hc, hft, hg⟩ := h
  have := c_Len hc
  rwa [Fo.ids_len] at this
theorem s_Find {p : Nat} {F : Nat → Prop} {t : Fo} {w : World} (k : Id) (hs : t.sz ≤ 1000000000) (h : SqAt w p F t) : Does Tryz.prog 40 #[.pointer (some ⟨p, 0, none⟩), idv k] w fun v w' => v = .int .i64 (if k ∈ t.ids then (t.pos k : Int) else -1) ∧ SqAt w' p F t ∧ Turn F F w w' := by
  obtain ⟨E, ρ, rfl, hF, hfar, hc, hft, hg⟩ := h
  refine (c_Find k (fun _ => Iff.rfl) (fun j hj => ⟨hj, fits_u hft j hj⟩) hg.nd (by rw [Fo.ids_len]; exact hs) hc).mono ?_
  rintro v w' ⟨rfl, h2, hk⟩
  exact ⟨rfl, ⟨E, ρ, rfl, hF, fun g hg => hfar g (Nat.le_trans hk.size hg), h2, hft, hg⟩, .kept hF hk fun t ht => by rcases ht with rfl | rfl <;> simp⟩
end Sq
namespace Sq
open Go Go.RowKit Sx Tl
variable {E : Env} {ord rt N D : List Id} {ρ : Id → Rec} {w : World}
/-- The one behind, of the same writer. -/
def nx (u : Un) : Un := ⟨(u.id.1, u.id.2 + 1), u.id, u.r⟩
def tow (u : Un) : Nat → List Un
  | 0 => []
  | m + 1 => nx u :: tow (nx u) m
def towI (u : Un) (m : Nat) : List Id := (tow u m).map (·.id)
def towL (N : List Id) (u : Un) : Nat → List Id
  | 0 => N
  | m + 1 => towL ((nx u).id :: N) (nx u) m
def towR (ρ : Id → Rec) (u : Un) : Nat → Id → Rec
  | 0 => ρ
  | m + 1 => towR (fset (fset ρ (nx u).id ⟨nx u, some u.id, [], [], m + 1⟩) u.id { ρ u.id with R := [(nx u).id] }) (nx u) m
theorem towI_succ (u : Un) (m : Nat) : towI u (m + 1) = (nx u).id :: towI (nx u) m := rfl
theorem tow_mem : ∀ {m : Nat} {u : Un} {k : Id}, k ∈ towI u m → k.1 = u.id.1 ∧ u.id.2 < k.2 ∧ k.2 ≤ u.id.2 + m
  | m + 1, u, k, h => by
    rw [towI_succ] at h
    rcases List.mem_cons.1 h with rfl | h
    · exact ⟨rfl, by show u.id.2 < u.id.2 + 1; omega, by show u.id.2 + 1 ≤ _; omega⟩
    · obtain ⟨h1, h2, h3⟩ := tow_mem h
      have e1 : (nx u).id.1 = u.id.1 := rfl
      have e2 : (nx u).id.2 = u.id.2 + 1 := rfl
      exact ⟨h1.trans e1, by omega, by omega⟩
theorem tow_len : ∀ (m : Nat) (u : Un), (towI u m).length = m
  | 0, _ => rfl
  | m + 1, u => congrArg (· + 1) (tow_len m (nx u))
theorem nx_ne (u : Un) : (nx u).id ≠ u.id := fun e => by have := congrArg Prod.snd e; exact absurd this (by show u.id.2 + 1 ≠ u.id.2; omega)
theorem row_insL {τ : Tag} {v u : Value} {l ns : List Id} {k : Nat} {A : World} (hr : RowAt w E τ v l)
    (ho : A.ownsRow 0 85 1 u (l.length + ns.length) ((l.map (pv E)).take k ++ ns.map (pv E) ++ (l.map (pv E)).drop k)) (hk : k ≤ l.length) (hg : w.grownBy A v.ownBlock) (hb : u.ownBlock = v.ownBlock ∨ u.ownBlock = some w.heap.size) :
    ∃ E', Ex E w E' A ∧ RowAt A E' τ u (l.take k ++ ns ++ l.drop k) ∧ Kept E' (fun t => t = τ) w A := by
  have e1 : (l.map (pv E)).take k ++ ns.map (pv E) ++ (l.map (pv E)).drop k = (l.take k ++ ns ++ l.drop k).map (pv E) := by simp
  have e2 : l.length + ns.length = (l.take k ++ ns ++ l.drop k).length := by simp only [List.length_append, List.length_take, List.length_drop]; omega
  rw [e1, e2] at ho
  rcases hb with hb | hb
  · refine ⟨E, .refl _ _ _, ⟨ho, fun g hg' => hr.tag g (hb ▸ hg')⟩, .grown hg fun g hg' => hr.tag g hg'⟩
  · have hlt := own_ltg ho hb
    refine ⟨E.tag w.heap.size τ, .tag τ (Nat.le_refl _) hlt, ⟨ho, fun g hg' => ?_⟩, .grown hg fun g hg' => ?_⟩
    · rw [hb] at hg'
      cases hg'
      exact if_pos rfl
    · have := own_ltg hr.own hg'
      show (if g = w.heap.size then τ else E.tg g) = τ
      rw [if_neg (by omega)]
      exact hr.tag g hg'
structure Ch where
  u : Un
  i : Nat
  ρ : Id → Rec
  N : List Id
  D : List Id
  E : Env
  v : Value
  done : List Id
/-- How far the chain has come. -/
structure ChI (E0 : Env) (X : World) (ord rt : List Id) (R : Id → Rec) (NN DD all : List Id) (s : Ch) (A : World) : Prop where
  core : Core A s.E ord rt s.N s.D s.ρ
  kept : Kept E0 SA X A
  p : s.E.p = E0.p
  old : ∀ g, g < X.heap.size → s.E.tg g = E0.tg g
  far : ∀ g, A.heap.size ≤ g → s.E.tg g = .other
  clo : Clo ord rt s.N s.D s.ρ
  uN : s.u.id ∈ s.N
  uu : (s.ρ s.u.id).u = s.u
  uR : (s.ρ s.u.id).R = []
  clk : s.u.id.2 + s.i ≤ 9007199254740991
  new : ∀ k ∈ towI s.u s.i, k ∉ s.N
  rc : towR s.ρ s.u s.i = R
  n : towL s.N s.u s.i = NN
  d : towL s.D s.u s.i = DD
  al : s.done ++ towI s.u s.i = all
  own : A.ownsRow X.heap.size 85 1 s.v s.done.length (s.done.map (pv s.E))
  tag : ∀ g, s.v.ownBlock = some g → s.E.tg g = .other
  dn : ∀ j ∈ s.done, j ∈ s.N
theorem own_ge {v : Value} {B e n nn : Nat} {xs : List Value} (h : w.ownsRow B e n v nn xs) {g : Nat} (hg : v.ownBlock = some g) : B ≤ g := by
  rcases h.2 with ⟨rfl, _⟩ | ⟨g', cap, cur, rfl, hb, _⟩
  · cases hg
  · cases hg
    exact hb
/-- A new row of one. -/
theorem row_one {τ : Tag} {b : Nat} {x : Id} (h : Blk w b [pv E x] 85) (ht : E.tg b = τ) : RowAt w E τ (.slice (some ⟨b, 0, none⟩) 1 1) [x] :=
  ⟨⟨rfl, .inr ⟨b, 1, #[pv E x], rfl, Nat.zero_le _, h, Nat.le_refl _, by decide, rfl, rfl⟩⟩, fun g hg => by cases hg; exact ht⟩
theorem Kept.grownNew {E0 : Env} {X A A' : World} {v : Value} (h : Kept E0 SA X A) (hg : A.grownBy A' v.ownBlock) (hb : ∀ g, v.ownBlock = some g → X.heap.size ≤ g) : Kept E0 SA X A' :=
  ⟨hg.os.trans h.os, hg.tape.trans h.tape, hg.output.trans h.output, Nat.le_trans h.size hg.size, fun g h1 h2 => (hg.block g (Nat.lt_of_lt_of_le h1 h.size) (fun e => by have := hb g e.symm; omega)).trans (h.block g h1 h2)⟩
attribute [local irreducible] W Lst Qst Pu seqQ blkQ rndQ cutQ retQ Does Enters IntKind.wrap bits sb World.alloc World.putObj Blk
set_option maxHeartbeats 2000000 in
theorem c_chain (u : Un) (m : Nat) (c : List Id) (hfar : ∀ g, w.heap.size ≤ g → E.tg g = .other) (hc : Clo ord rt N D ρ) (hn : ∀ j ∈ N, (ρ j).n ≤ 1000000000) (hm0 : 0 < m) (hm : m ≤ 1000000000) (hu : u.id ∈ D) (hρu : (ρ u.id).u = u) (hR : (ρ u.id).R = []) (hclk : u.id.2 + m ≤ 9007199254740991) (hnew : ∀ k ∈ towI u m, k ∉ N)
    (hch : ChainL ρ N (u.id :: c) ∧ (u.id :: c).Nodup) (hD : ∀ j, j ∈ ord ↔ j ∈ D) (hN : ∀ j ∈ ord, j ∈ N ∧ (ρ j).u.id = j) (hnd : ord.Nodup) (hlen : ord.length + m ≤ 1000000000) (h : Core w E ord rt N D ρ) :
    Does Tryz.prog 39 #[.pointer (some ⟨E.p, 0, none⟩), pv E u.id, .int .i64 (m : Int)] w fun v w' => v = .tuple #[] ∧ ∃ E', E'.p = E.p ∧ (∀ g, g < w.heap.size → E'.tg g = E.tg g) ∧ (∀ g, w'.heap.size ≤ g → E'.tg g = .other) ∧ Kept E SA w w' ∧
      Core w' E' (ord.take (ord.idxOf u.id + 1) ++ towI u m ++ ord.drop (ord.idxOf u.id + 1)) rt (towL N u m) (towL D u m) (towR (bump m (u.id :: c) ρ) u m) := by
  refine Does_of (args := [.pointer (some ⟨E.p, 0, none⟩), pv E u.id, .int .i64 (m : Int)]) Tryz.func39 (by kernel_rfl) rfl rfl rfl rfl rfl ?_
  have huN := hc.D _ hu
  obtain ⟨htu, ul, ur, hbu, _, _⟩ := h.nodes u.id huN
  unfold ncs at hbu
  rw [hρu] at hbu
  unfold pv
  have hV : findV ord D u.id = (ord.idxOf u.id : Int) := if_pos hu
  have hix : ord.idxOf u.id < ord.length := List.idxOf_lt_length_iff.2 ((hD _).2 hu)
  (refine Ga ?_)
  (apply Lst_call; (focus rfl); (focus rfl))
  refine (c_Find u.id hD hN hnd (by omega) h).mono ?_
  rintro v w2 ⟨rfl, h2, hk2⟩
  rw [hV]
  have hK2 : Kept E SA w w2 := hk2.mono (T := SA) fun t ht => by rcases ht with rfl | rfl <;> simp
  have hpi : ((ord.idxOf u.id : Int) + 1) = ((ord.idxOf u.id + 1 : Nat) : Int) := by omega
  clear h hbu hk2
  (refine Ga ?_)
  refine W_cutB (α := Unit) (fun _ => [(0, .pointer (some ⟨E.p, 0, none⟩)), (1, .pointer (some ⟨E.ad u.id, 0, none⟩)), (2, .int .i64 (m : Int)), (6, .int .i64 ((ord.idxOf u.id + 1 : Nat) : Int))]) (fun _ A => Kept E SA w A ∧ Core A E ord rt N D (bump m (u.id :: c) ρ)) ?_ ?_
  · refine W_loop (α := List Id × (Id → Rec)) (fun y => [(0, .pointer (some ⟨E.p, 0, none⟩)), (1, .pointer (some ⟨E.ad u.id, 0, none⟩)), (2, .int .i64 (m : Int)), (6, .int .i64 ((ord.idxOf u.id + 1 : Nat) : Int)), (7, parv E y.1.head?)])
      (fun y A => ChainL y.2 N y.1 ∧ bump m y.1 y.2 = bump m (u.id :: c) ρ ∧ y.1.Nodup ∧ (∀ j ∈ y.1, (y.2 j).n ≤ 1000000000) ∧ Kept E SA w A ∧ Core A E ord rt N D y.2) (fun y _ => y.1.length) (u.id :: c, ρ) ⟨hch.1, rfl, hch.2, ?_, hK2, h2⟩ ⟨rfl, rfl, rfl, congrArg (Value.int .i64) hpi, rfl, trivial⟩ ?_
    · have hcN : ∀ {l : List Id}, ChainL ρ N l → ∀ j ∈ l, j ∈ N := fun {l} => by
        induction l with
        | nil => intro _ j hj; cases hj
        | cons a l ih =>
          intro hl j hj
          rcases List.mem_cons.1 hj with rfl | hj
          · exact hl.1
          · exact ih hl.2.2 j hj
      exact fun j hj => hn j (hcN hch.1 j hj)
    clear h2 hK2 hch hn
    rintro J ⟨l, σ⟩ A ⟨hl, hb, hnd, hn, hK, h1⟩
    cases l with
    | nil =>
      unfold List.head? parv
      (refine Ga ?_)
      refine cutQ_n () ⟨hK, ?_⟩ ⟨rfl, rfl, rfl, rfl, trivial⟩
      rw [← hb]
      exact h1
    | cons j l =>
      obtain ⟨hjN, hjp, hl⟩ := hl
      dsimp only at hjp hl hn hb h1
      rw [List.nodup_cons] at hnd
      have hnj := hn j (List.mem_cons_self ..)
      obtain ⟨htj, jl, jr, hbj, hjl, hjr⟩ := h1.nodes j hjN
      have hltj := hbj.lt
      have hcell : (ncs E { σ j with n := (σ j).n + m } jl jr) = [.int .u64 ((σ j).u.id.1 : Int), .int .u64 ((σ j).u.id.2 : Int), .int .u64 ((σ j).u.l.1 : Int), .int .u64 ((σ j).u.l.2 : Int), .int .u64 ((σ j).u.r.1 : Int), .int .u64 ((σ j).u.r.2 : Int), parv E (σ j).par, jl, jr, .int .i64 (((σ j).n : Int) + (m : Int))] := by
        unfold ncs
        simp only [Int.natCast_add]
      have hKp := Kept.put (S := fun t => t = .node j) (w := A) (E.ad j) htj (.cells (ncs E { σ j with n := (σ j).n + m } jl jr).toArray 115)
      have h2 := h1.updNode (r := { σ j with n := (σ j).n + m }) hKp (fun t ht => .inr (.inl ht)) ⟨htj, jl, jr, Blk.put_same hltj _ _, hKp.row hjl (by simp), hKp.row hjr (by simp)⟩
      have hE0 := hK.step hKp (fun _ _ => rfl) (fun t ht => by rw [ht]; simp)
      have hpj : parv E (σ j).par = parv E l.head? := congrArg _ hjp
      obtain ⟨lo, hlo⟩ : ∃ lo, parv E l.head? = .pointer lo := by cases l.head? <;> exact ⟨_, rfl⟩
      rw [hcell] at h2 hE0
      unfold ncs at hbj
      rw [hpj, hlo] at hbj h2 hE0
      unfold List.head? parv pv
      (refine Ga ?_)
      refine rndQ_n (α := List Id × (Id → Rec)) (l, fset σ j { σ j with n := (σ j).n + m }) ⟨ChainL.congr (fun i hi => ⟨hi, ?_⟩) hl, ?_, hnd.2, fun i hi => ?_, hE0, h2⟩ ⟨rfl, rfl, rfl, rfl, ?_, trivial⟩ (by simp)
      · dsimp only
        by_cases e : i = j
        · subst e
          rw [fset_same]
        · rw [fset_ne e]
      · exact (bump_cons hnd.1 σ).trans hb
      · dsimp only
        rw [fset_ne (fun e : i = j => hnd.1 (e ▸ hi))]
        exact hn i (List.mem_cons_of_mem _ hi)
      · exact hlo.symm
  · rintro J _ A ⟨hK, h3⟩
    clear h2 hK2 hch
    have hb1 : ∀ j, (bump m (u.id :: c) ρ j).u = (ρ j).u ∧ (bump m (u.id :: c) ρ j).L = (ρ j).L ∧ (bump m (u.id :: c) ρ j).R = (ρ j).R ∧ (bump m (u.id :: c) ρ j).par = (ρ j).par := fun j => ⟨rfl, rfl, rfl, rfl⟩
    generalize bump m (u.id :: c) ρ = ρ1 at *
    have hc1 : Clo ord rt N D ρ1 := ⟨hc.ord, hc.rt, hc.D, fun k hk j hj => hc.L k hk j (by rw [(hb1 k).2.1] at hj; exact hj), fun k hk j hj => hc.R k hk j (by rw [(hb1 k).2.2.1] at hj; exact hj), fun k hk j hj => hc.par k hk j (by rw [(hb1 k).2.2.2] at hj; exact hj)⟩
    (refine Ga ?_)
    refine W_cutB (α := Ch) (fun s => [(0, .pointer (some ⟨E.p, 0, none⟩)), (6, .int .i64 ((ord.idxOf u.id + 1 : Nat) : Int)), (8, s.v)]) (fun s A' => ChI E A ord rt (towR ρ1 u m) (towL N u m) (towL D u m) (towI u m) s A' ∧ s.i = 0) ?_ ?_
    · refine W_loop (α := Ch) (fun s => [(0, .pointer (some ⟨E.p, 0, none⟩)), (1, .pointer (some ⟨s.E.ad s.u.id, 0, none⟩)), (6, .int .i64 ((ord.idxOf u.id + 1 : Nat) : Int)), (8, s.v), (9, .int .i64 (s.i : Int))]) (fun s A' => ChI E A ord rt (towR ρ1 u m) (towL N u m) (towL D u m) (towI u m) s A') (fun s _ => s.i)
        ⟨u, m, ρ1, N, D, E, .slice none 0 0, []⟩ ⟨h3, .refl _ _ _, rfl, fun _ _ => rfl, fun g hg => hfar g (Nat.le_trans hK.size hg), hc1, huN, (hb1 _).1.trans hρu, (hb1 _).2.2.1.trans hR, hclk, hnew, rfl, rfl, rfl, rfl, ⟨rfl, .inl ⟨rfl, rfl⟩⟩, (fun g hg => by cases hg), (fun j hj => by cases hj)⟩ ⟨rfl, rfl, rfl, rfl, rfl, trivial⟩ ?_
      clear h3 hc hc1 hnew hclk hR hρu hb1
      rintro J ⟨cu, i, σ, N1, D1, E1, v, done⟩ A1 hI
      dsimp only
      cases i with
      | zero =>
        (refine Ga ?_)
        exact cutQ_n _ ⟨hI, rfl⟩ ⟨rfl, rfl, rfl, trivial⟩
      | succ i =>
        obtain ⟨hcore, hkept, hp, hold, hfar1, hclo, huN1, huu, huR, hclk, hnew, hrc, hnn, hdd, hal, hown, htag, hdn⟩ := hI
        dsimp only at *
        obtain ⟨va, vc, rfl, hvc⟩ := own_form hown
        have hdl : done.length + (i + 1) = m := by
          have := congrArg List.length hal
          rwa [List.length_append, tow_len, tow_len] at this
        obtain ⟨htcu, cl, cr, hbcu, hrl, hrr⟩ := hcore.nodes _ huN1
        unfold ncs at hbcu
        rw [huu] at hbcu
        have hltc := hbcu.lt
        have hcpos : ((i + 1 : Nat) : Int) > 0 := by omega
        (refine Ga ?_)
        refine W_draw 28 (Grown A1) rfl (by kernel_rfl) (grown_start A1) ?_
        (refine Qb ?_)
        intro w8 hb8
        have hx : (nx cu).id ∉ N1 := hnew _ (by rw [towI_succ]; exact List.mem_cons_self ..)
        have hxne : cu.id ≠ (nx cu).id := Ne.symm (nx_ne cu)
        have hs8 := hb8.size
        obtain ⟨W2, hW2⟩ : ∃ W2, w8.alloc (.cells [.int .u64 (cu.id.1 : Int), .int .u64 ((cu.id.2 : Int) + 1), .int .u64 (cu.id.1 : Int), .int .u64 (cu.id.2 : Int), .int .u64 (cu.r.1 : Int), .int .u64 (cu.r.2 : Int), .pointer (some ⟨E1.ad cu.id, 0, none⟩), .slice none 0 0, .slice none 0 0, .int .i64 ((i + 1 : Nat) : Int)].toArray 115) = W2 := ⟨_, rfl⟩
        have hb2 : Below A1.heap.size A1 W2 := by rw [← hW2]; exact hb8.trans (Below.mono (show Below w8.heap.size w8 _ from Bel) hs8)
        have hs2 : W2.heap.size = w8.heap.size + 1 := by rw [← hW2]; simp only [Sx.sizes]
        have kXe : Blk W2 w8.heap.size [.int .u64 (cu.id.1 : Int), .int .u64 ((cu.id.2 : Int) + 1), .int .u64 (cu.id.1 : Int), .int .u64 (cu.id.2 : Int), .int .u64 (cu.r.1 : Int), .int .u64 (cu.r.2 : Int), .pointer (some ⟨E1.ad cu.id, 0, none⟩), .slice none 0 0, .slice none 0 0, .int .i64 ((i + 1 : Nat) : Int)] 115 := by rw [← hW2]; exact (by (repeat (first | assumption | (apply Blk.below (hb := hb1); rotate_left; (focus ((try simp only [Sx.sizes]); omega)); rotate_right) | (apply Blk.below (hb := hb2); rotate_left; (focus ((try simp only [Sx.sizes]); omega)); rotate_right) | (apply Blk.below (hb := hb3); rotate_left; (focus ((try simp only [Sx.sizes]); omega)); rotate_right) | (apply Blk.below (hb := hb4); rotate_left; (focus ((try simp only [Sx.sizes]); omega)); rotate_right) | (apply Blk.below (hb := hb5); rotate_left; (focus ((try simp only [Sx.sizes]); omega)); rotate_right) | (apply Blk.below (hb := hb6); rotate_left; (focus ((try simp only [Sx.sizes]); omega)); rotate_right) | (apply Blk.below (hb := hb7); rotate_left; (focus ((try simp only [Sx.sizes]); omega)); rotate_right) | (apply Blk.below (hb := hb8); rotate_left; (focus ((try simp only [Sx.sizes]); omega)); rotate_right) | (apply Blk.below (hb := hb9); rotate_left; (focus ((try simp only [Sx.sizes]); omega)); rotate_right) | exact Blk.newE (by first | rfl | ((try simp only [Sx.sizes]); first | done | omega)) _ _ | exact Blk.put_same (by (try simp only [Sx.sizes]); first | done | omega) _ _ | (apply Blk.put_ne; (focus omega)) | apply Blk.alloc | apply Blk.drew)); done)
        have hpar : parv (E1.node (nx cu).id w8.heap.size) (some cu.id) = .pointer (some ⟨E1.ad cu.id, 0, none⟩) := by
          show Value.pointer (some ⟨if cu.id = (nx cu).id then w8.heap.size else E1.ad cu.id, 0, none⟩) = _
          rw [if_neg hxne]
        have kX : Blk W2 w8.heap.size (ncs (E1.node (nx cu).id w8.heap.size) ⟨nx cu, some cu.id, [], [], i + 1⟩ (.slice none 0 0) (.slice none 0 0)) 115 := by
          unfold ncs
          dsimp only
          rw [hpar]
          exact kXe
        have hC2 := hcore.newNode (r := ⟨nx cu, some cu.id, [], [], i + 1⟩) hclo hx hb2 hs8 kX ⟨⟨rfl, .inl ⟨rfl, rfl⟩⟩, fun g hg => by cases hg⟩ ⟨⟨rfl, .inl ⟨rfl, rfl⟩⟩, fun g hg => by cases hg⟩
        have e2p : (E1.node (nx cu).id w8.heap.size).p = E1.p := rfl
        have e2x : (E1.node (nx cu).id w8.heap.size).ad (nx cu).id = w8.heap.size := if_pos rfl
        have e2o : ∀ j, j ≠ (nx cu).id → (E1.node (nx cu).id w8.heap.size).ad j = E1.ad j := fun j hj => if_neg hj
        have e2t : ∀ g, g ≠ w8.heap.size → (E1.node (nx cu).id w8.heap.size).tg g = E1.tg g := fun g hg => if_neg hg
        generalize E1.node (nx cu).id w8.heap.size = E2 at *
        (refine Ga ?_)
        rw [hW2]
        clear hW2
        (apply Lst_slit; (focus rfl); (focus rfl); (focus rfl); (focus rfl); (focus rfl); (focus rfl); (focus rfl); (focus rfl); (focus rfl); (focus (repeat (first | apply FillO.nil | (apply FillO.cons; (focus constructor); (focus rfl); (focus rfl); (focus (repeat constructor)))))); (focus ((try simp only [Sx.sizes]); first | done | rfl)); (focus rfl))
        have hpx : pv E2 (nx cu).id = .pointer (some ⟨w8.heap.size, 0, none⟩) := by unfold pv; rw [e2x]
        obtain ⟨W3, hW3⟩ : ∃ W3, W2.alloc (.cells (.pointer (some ⟨w8.heap.size, 0, none⟩) :: [].append (List.replicate 0 [Value.pointer none]).flatten).toArray 85) = W3 := ⟨_, rfl⟩
        have hW3' : W2.alloc (.cells [.pointer (some ⟨w8.heap.size, 0, none⟩)].toArray 85) = W3 := hW3
        have hb3 : Below W2.heap.size W2 W3 := by rw [← hW3']; exact Bel
        have hs3 : W3.heap.size = W2.heap.size + 1 := by rw [← hW3']; simp only [Sx.sizes]
        have kR : Blk W3 W2.heap.size [.pointer (some ⟨w8.heap.size, 0, none⟩)] 85 := by rw [← hW3']; exact (by (repeat (first | assumption | (apply Blk.below (hb := hb1); rotate_left; (focus ((try simp only [Sx.sizes]); omega)); rotate_right) | (apply Blk.below (hb := hb2); rotate_left; (focus ((try simp only [Sx.sizes]); omega)); rotate_right) | (apply Blk.below (hb := hb3); rotate_left; (focus ((try simp only [Sx.sizes]); omega)); rotate_right) | (apply Blk.below (hb := hb4); rotate_left; (focus ((try simp only [Sx.sizes]); omega)); rotate_right) | (apply Blk.below (hb := hb5); rotate_left; (focus ((try simp only [Sx.sizes]); omega)); rotate_right) | (apply Blk.below (hb := hb6); rotate_left; (focus ((try simp only [Sx.sizes]); omega)); rotate_right) | (apply Blk.below (hb := hb7); rotate_left; (focus ((try simp only [Sx.sizes]); omega)); rotate_right) | (apply Blk.below (hb := hb8); rotate_left; (focus ((try simp only [Sx.sizes]); omega)); rotate_right) | (apply Blk.below (hb := hb9); rotate_left; (focus ((try simp only [Sx.sizes]); omega)); rotate_right) | exact Blk.newE (by first | rfl | ((try simp only [Sx.sizes]); first | done | omega)) _ _ | exact Blk.put_same (by (try simp only [Sx.sizes]); first | done | omega) _ _ | (apply Blk.put_ne; (focus omega)) | apply Blk.alloc | apply Blk.drew)); done)
        rw [hW3]
        clear hW3 hW3'
        have hE3 : Ex E2 W2 (E2.tag W2.heap.size (.right cu.id)) W3 := .tag _ (Nat.le_refl _) (by omega)
        have e3r : (E2.tag W2.heap.size (.right cu.id)).tg W2.heap.size = .right cu.id := if_pos rfl
        have e3t : ∀ g, g ≠ W2.heap.size → (E2.tag W2.heap.size (.right cu.id)).tg g = E2.tg g := fun g hg => if_neg hg
        generalize E2.tag W2.heap.size (.right cu.id) = E3 at *
        have hC3 := (hC2.ext hE3 (Nat.le_refl _)).below (hb3)
        have hb13 : Below A1.heap.size A1 W3 := hb2.trans (hb3.mono hb2.size)
        have hbc3 := hbcu.below hb13 hltc
        have hlc3 := hbc3.lt
        have kX3 := kXe.below hb3 kXe.lt
        have e3o : ∀ j, j ≠ (nx cu).id → E3.ad j = E1.ad j := fun j hj => by rw [hE3.ad]; exact e2o j hj
        have e3x : E3.ad (nx cu).id = w8.heap.size := by rw [hE3.ad]; exact e2x
        have e3p : E3.p = E1.p := hE3.p.trans e2p
        have e31 : ∀ g, g < A1.heap.size → E3.tg g = E1.tg g := fun g hg => (e3t g (by omega)).trans (e2t g (by omega))
        have hcN3 : cu.id ∈ (nx cu).id :: N1 := List.mem_cons_of_mem _ huN1
        have htc3 : E3.tg (E1.ad cu.id) = .node cu.id := (e31 _ hltc).trans htcu
        have hnc := hC3.nodes cu.id hcN3
        rw [fset_ne hxne] at hnc
        obtain ⟨_, cl3, cr3, hbc3', hrl3, _⟩ := hnc
        have hacu : E3.ad cu.id = E1.ad cu.id := e3o _ hxne
        rw [hacu] at hbc3'
        unfold ncs at hbc3'
        rw [huu] at hbc3'
        have hlc3 := hbc3'.lt
        have hKp := Kept.put (S := fun t => t = .node cu.id) (w := W3) (E1.ad cu.id) htc3 (.cells (ncs E3 { σ cu.id with R := [(nx cu).id] } cl3 (.slice (some ⟨W2.heap.size, 0, none⟩) 1 1)).toArray 115)
        have hpx3 : pv E3 (nx cu).id = .pointer (some ⟨w8.heap.size, 0, none⟩) := by unfold pv; rw [e3x]
        have hrow3 : RowAt W3 E3 (.right cu.id) (.slice (some ⟨W2.heap.size, 0, none⟩) 1 1) [(nx cu).id] := row_one (by rw [hpx3]; exact kR) e3r
        have hC4 := hC3.updNode (r := { σ cu.id with R := [(nx cu).id] }) hKp (fun t ht => .inr (.inl ht)) ⟨by rw [hacu]; exact htc3, cl3, .slice (some ⟨W2.heap.size, 0, none⟩) 1 1, by rw [hacu]; exact Blk.put_same hlc3 _ _, hKp.row hrl3 (by simp), hKp.row hrow3 (by simp)⟩
        have hK13 : Kept E1 SA A1 W3 := .of hb13
        have hK14 := hK13.step hKp e31 (fun t ht => by rw [ht]; simp)
        have kX4 := hKp.blk kX3 (by rw [e3t _ (by omega)]; have := hC2.nodes (nx cu).id (List.mem_cons_self ..); have := this.tag; rw [e2x] at this; rw [this]; simpa using Ne.symm hxne)
        have hcell : ncs E3 { σ cu.id with R := [(nx cu).id] } cl3 (.slice (some ⟨W2.heap.size, 0, none⟩) 1 1) = [.int .u64 (cu.id.1 : Int), .int .u64 (cu.id.2 : Int), .int .u64 (cu.l.1 : Int), .int .u64 (cu.l.2 : Int), .int .u64 (cu.r.1 : Int), .int .u64 (cu.r.2 : Int), parv E3 (σ cu.id).par, cl3, .slice (some ⟨W2.heap.size, 0, none⟩) 1 1, .int .i64 ((σ cu.id).n : Int)] := by
          unfold ncs
          dsimp only
          rw [huu]
        rw [hcell] at hKp hC4 hK14 kX4
        obtain ⟨W4, hW4⟩ : ∃ W4, W3.putObj (E1.ad cu.id) (.cells [.int .u64 (cu.id.1 : Int), .int .u64 (cu.id.2 : Int), .int .u64 (cu.l.1 : Int), .int .u64 (cu.l.2 : Int), .int .u64 (cu.r.1 : Int), .int .u64 (cu.r.2 : Int), parv E3 (σ cu.id).par, cl3, .slice (some ⟨W2.heap.size, 0, none⟩) 1 1, .int .i64 ((σ cu.id).n : Int)].toArray 115) = W4 := ⟨_, rfl⟩
        have hs4 : W4.heap.size = W3.heap.size := by rw [← hW4, World.putObj_size]
        rw [hW4] at hKp hC4 hK14 kX4
        clear hbc3 hbcu
        (refine Ga ?_)
        rw [hW4]
        clear hW4 hbc3' hC3 hC2 hKp hrl3 hrow3 kX kXe kX3 kR hK13 hcell hcore
        obtain ⟨so, sr, fresh, mm, hS, hOo, hR, hM, hF⟩ := id hC4.seq
        obtain ⟨es, hes, hlk⟩ := id hC4.all
        rw [e3p, hp] at hS
        have ltP := hS.lt
        have ltX := kX4.lt
        refine W_draw 10 (Grown W4) rfl (by kernel_rfl) (grown_start W4) ?_
        (refine Qb ?_)
        intro w5 hb5
        have hes5 := (Kept.of (E := E3) (S := fun _ => False) hb5).map hes (fun h => h)
        have hC5 := hC4.below hb5
        have hK5 := hK14.step (Kept.of (E := E3) (S := fun _ => False) hb5) e31 (fun t h => h.elim)
        apply SxG.Lst_mapput (k := (nx cu).id) (ky := idv) (R := RP) (v := .pointer (some ⟨w8.heap.size, 0, none⟩)) w8.heap.size
        focus rfl
        focus rfl
        focus rfl
        focus rfl
        focus exact idKey
        focus exact hes5
        focus rfl
        intro w6 hm6 hc6 hs6
        have hk6 : Kept E3 (fun t => t = .all) w5 w6 := .ofChg hc6 (fun b hb => by rw [List.mem_singleton.1 hb]; exact hC5.tma)
        have hC6 : Core w6 E3 ord rt ((nx cu).id :: N1) ((nx cu).id :: D1) _ := hC5.updAll hk6 (fun t ht => .inr ht) ⟨_, hm6, fun k => by
          rw [SxG.look_put, hlk]
          by_cases e : k = (nx cu).id
          · subst e
            rw [if_pos rfl, if_pos (List.mem_cons_self ..), e3x]
          · rw [if_neg e]
            by_cases e' : k ∈ D1
            · rw [if_pos e', if_pos (List.mem_cons_of_mem _ e')]
            · rw [if_neg e', if_neg (fun hm => (List.mem_cons.1 hm).elim e e')]⟩
        have hK6 := hK5.step hk6 e31 (fun t ht => by rw [ht]; simp)
        have hs5 := hb5.size
        clear hC5 hK5 hk6 hm6 hc6 hes5 hes hlk hC4 hK14 hb5 hS hOo hR hM hF ltP kX4
        have hown6 := own_kept hown fun g hg => hK6.block g (own_ltg hown hg) (by rw [htag g hg]; exact fun h => h rfl)
        (refine Ga ?_)
        (apply Lst_slit; (focus rfl); (focus rfl); (focus rfl); (focus rfl); (focus rfl); (focus rfl); (focus rfl); (focus rfl); (focus rfl); (focus (repeat (first | apply FillO.nil | (apply FillO.cons; (focus constructor); (focus rfl); (focus rfl); (focus (repeat constructor)))))); (focus ((try simp only [Sx.sizes]); first | done | rfl)); (focus rfl))
        (refine Ga ?_)
        obtain ⟨W7, hW7⟩ : ∃ W7, w6.alloc (.cells (.pointer (some ⟨w8.heap.size, 0, none⟩) :: [].append (List.replicate 0 [Value.pointer none]).flatten).toArray 85) = W7 := ⟨_, rfl⟩
        have hW7' : w6.alloc (.cells [.pointer (some ⟨w8.heap.size, 0, none⟩)].toArray 85) = W7 := hW7
        have hb7 : Below w6.heap.size w6 W7 := by rw [← hW7']; exact Bel
        have hs7 : W7.heap.size = w6.heap.size + 1 := by rw [← hW7']; simp only [Sx.sizes]
        have k7 : Blk W7 w6.heap.size [.pointer (some ⟨w8.heap.size, 0, none⟩)] 85 := by rw [← hW7']; exact (by (repeat (first | assumption | (apply Blk.below (hb := hb1); rotate_left; (focus ((try simp only [Sx.sizes]); omega)); rotate_right) | (apply Blk.below (hb := hb2); rotate_left; (focus ((try simp only [Sx.sizes]); omega)); rotate_right) | (apply Blk.below (hb := hb3); rotate_left; (focus ((try simp only [Sx.sizes]); omega)); rotate_right) | (apply Blk.below (hb := hb4); rotate_left; (focus ((try simp only [Sx.sizes]); omega)); rotate_right) | (apply Blk.below (hb := hb5); rotate_left; (focus ((try simp only [Sx.sizes]); omega)); rotate_right) | (apply Blk.below (hb := hb6); rotate_left; (focus ((try simp only [Sx.sizes]); omega)); rotate_right) | (apply Blk.below (hb := hb7); rotate_left; (focus ((try simp only [Sx.sizes]); omega)); rotate_right) | (apply Blk.below (hb := hb8); rotate_left; (focus ((try simp only [Sx.sizes]); omega)); rotate_right) | (apply Blk.below (hb := hb9); rotate_left; (focus ((try simp only [Sx.sizes]); omega)); rotate_right) | exact Blk.newE (by first | rfl | ((try simp only [Sx.sizes]); first | done | omega)) _ _ | exact Blk.put_same (by (try simp only [Sx.sizes]); first | done | omega) _ _ | (apply Blk.put_ne; (focus omega)) | apply Blk.alloc | apply Blk.drew)); done)
        rw [hW7]
        clear hW7 hW7'
        have hC7 := hC6.below hb7
        have hK7 := hK6.step (Kept.of (E := E3) (S := fun _ => False) hb7) e31 (fun t h => h.elim)
        have hown7 := own_kept hown6 fun g hg => hb7.block g (own_ltg hown6 hg)
        have hpx3' := hpx3
        apply Lst_appendAt (hown := hown7) (bytes := 8) (news := [pv E3 (nx cu).id])
        focus rfl
        focus rfl
        focus rfl
        focus rfl
        focus rfl
        focus rfl
        focus rfl
        focus rfl
        focus rfl
        focus (intro j u hu; rw [add_none, Nat.zero_add, k7.cell]; rw [hpx3'] at hu; exact hu)
        focus rfl
        focus (intro u hu; rw [List.mem_singleton.1 hu]; rfl)
        focus omega
        focus omega
        focus exact Nat.le_trans hkept.size (Nat.le_trans hK7.size (Nat.le_refl _))
        focus rfl
        intro v' w9 ho hg hat
        have hs9 := hg.size
        have hvt : ∀ g, (Value.slice va done.length vc).ownBlock = some g → E3.tg g = .other := fun g hgo => by
          have hlt := own_ltg hown hgo
          rw [e31 g hlt]
          exact htag g hgo
        have hC9 : Core w9 E3 ord rt _ _ _ := hC7.kept (S := fun t => t = .other) (.grown hg hvt) (fun t ht => ht)
        have hK7' : Kept E SA A W7 := hkept.step hK7 hold (fun t ht => ht)
        have hK9 : Kept E SA A w9 := hK7'.grownNew hg (fun g hgo => own_ge hown hgo)
        obtain ⟨x1, x2, x3, rfl⟩ := own_slice ho
        (refine Ga ?_)
        have e1x : E1.ad cu.id = E1.ad cu.id := rfl
        have hmap : (done.map (pv E1)) ++ [pv E3 (nx cu).id] = (done ++ [(nx cu).id]).map (pv E3) := by
          rw [List.map_append, List.map_singleton]
          congr 1
          refine List.map_congr_left fun j hj => ?_
          unfold pv
          rw [e3o j (fun e => hx (e ▸ hdn j hj))]
        refine rndQ_n (α := Ch) ⟨nx cu, i, fset (fset σ (nx cu).id ⟨nx cu, some cu.id, [], [], i + 1⟩) cu.id { σ cu.id with R := [(nx cu).id] }, (nx cu).id :: N1, (nx cu).id :: D1, E3, .slice x1 x2 x3, done ++ [(nx cu).id]⟩ ⟨hC9, hK9, e3p.trans hp, fun g hg => (e31 g (Nat.lt_of_lt_of_le hg hkept.size)).trans (hold g hg), fun g hg => ?_, ⟨?_, ?_, ?_, ?_, ?_, ?_⟩, List.mem_cons_self .., ?_, ?_, ?_, fun k hk hm => ?_, hrc, hnn, hdd, ?_, ?_, fun g hgo => ?_, fun j hj => ?_⟩ ⟨rfl, ?_, rfl, rfl, ?_, trivial⟩ (Nat.lt_succ_self _)
        · rw [e3t g (by omega), e2t g (by omega)]
          exact hfar1 g (by omega)
        · exact fun j hj => List.mem_cons_of_mem _ (hclo.ord j hj)
        · exact fun j hj => List.mem_cons_of_mem _ (hclo.rt j hj)
        · exact fun j hj => (List.mem_cons.1 hj).elim (fun e => e ▸ List.mem_cons_self ..) fun h => List.mem_cons_of_mem _ (hclo.D j h)
        · intro k hk j hj
          dsimp only at hk hj
          by_cases e1 : k = cu.id
          · subst e1
            rw [fset_same] at hj
            exact List.mem_cons_of_mem _ (hclo.L _ huN1 j hj)
          · rw [fset_ne e1] at hj
            by_cases e2 : k = (nx cu).id
            · subst e2
              rw [fset_same] at hj
              cases hj
            · rw [fset_ne e2] at hj
              exact List.mem_cons_of_mem _ (hclo.L _ ((List.mem_cons.1 hk).resolve_left e2) j hj)
        · intro k hk j hj
          dsimp only at hk hj
          by_cases e1 : k = cu.id
          · subst e1
            rw [fset_same] at hj
            rw [List.mem_singleton.1 hj]
            exact List.mem_cons_self ..
          · rw [fset_ne e1] at hj
            by_cases e2 : k = (nx cu).id
            · subst e2
              rw [fset_same] at hj
              cases hj
            · rw [fset_ne e2] at hj
              exact List.mem_cons_of_mem _ (hclo.R _ ((List.mem_cons.1 hk).resolve_left e2) j hj)
        · intro k hk j hj
          dsimp only at hk hj
          by_cases e1 : k = cu.id
          · subst e1
            rw [fset_same] at hj
            exact List.mem_cons_of_mem _ (hclo.par _ huN1 j hj)
          · rw [fset_ne e1] at hj
            by_cases e2 : k = (nx cu).id
            · subst e2
              rw [fset_same] at hj
              cases hj
              exact List.mem_cons_of_mem _ huN1
            · rw [fset_ne e2] at hj
              exact List.mem_cons_of_mem _ (hclo.par _ ((List.mem_cons.1 hk).resolve_left e2) j hj)
        · dsimp only
          rw [fset_ne (Ne.symm hxne), fset_same]
        · dsimp only
          rw [fset_ne (Ne.symm hxne), fset_same]
        · show cu.id.2 + 1 + i ≤ _
          omega
        · rcases List.mem_cons.1 hm with rfl | hm
          · have := (tow_mem hk).2.1
            exact Nat.lt_irrefl _ this
          · exact hnew k (by rw [towI_succ]; exact List.mem_cons_of_mem _ hk) hm
        · rw [← hal, towI_succ]
          simp
        · dsimp only
          rw [← hmap, List.length_append]
          exact ho
        · rcases hat with h | h
          · exact hvt g (by rw [← h]; exact hgo)
          · rw [h] at hgo
            cases hgo
            rw [e3t _ (by omega), e2t _ (by omega)]
            exact hfar1 _ (by omega)
        · rcases List.mem_append.1 hj with h | h
          · exact List.mem_cons_of_mem _ (hdn j h)
          · rw [List.mem_singleton.1 h]
            exact List.mem_cons_self ..
        · dsimp only
          rw [e3x]
          rfl
        · exact congrArg (Value.int .i64) (by dsimp only; omega)
    · rintro J ⟨cu, i, σ, N1, D1, E1, v, done⟩ A' ⟨hI, hs0⟩
      dsimp only at hs0 ⊢
      subst hs0
      obtain ⟨hcore, hkept, hp, hold, hfar1, hclo, huN1, huu, huR, hclk1, hnew1, hrc, hnn, hdd, hal, hown, htag, hdn⟩ := hI
      dsimp only at *
      have hrc' : σ = towR ρ1 u m := hrc
      have hnn' : N1 = towL N u m := hnn
      have hdd' : D1 = towL D u m := hdd
      have hal' : done = towI u m := by rw [← hal]; exact (List.append_nil _).symm
      subst hrc' hnn' hdd' hal'
      rw [tow_len] at hown
      have hK' := hK.trans hkept
      clear hnew hnew1 hrc hnn hdd hal h3 hc hc1 huR hclo hdn hn
      obtain ⟨_, hown2⟩ := hown
      rcases hown2 with ⟨_, h0⟩ | ⟨g, cap, cur, rfl, hbg, hg, hnc, hcm, hcs, htk⟩
      · omega
      rw [Nat.mul_one] at hcs htk
      have hcur : Blk A' g cur.toList 85 := by
        unfold Blk
        rw [Array.toArray_toList]
        exact hg
      obtain ⟨so, sr, fresh, mm, hS, hOo, hR2, hM, hF⟩ := id hcore.seq
      rw [hp] at hS
      have hrowO := hOo
      obtain ⟨oa, oc, rfl, hac, hat⟩ := hOo.at
      clear hat
      (refine Ga ?_)
      (apply Lst_call; (focus rfl); (focus rfl))
      refine (c_Ins 0 ord.length (ord.idxOf u.id + 1) m _ _ (ord.map (pv E1)) ((towI u m).map (pv E1)) cur.toList g 0 cap 85 (by omega) hm0 (by omega) A' hrowO.own (Nat.zero_le _) rfl (by rw [List.length_map, tow_len]) hcur (fun j u hu => by
        rw [← htk, List.getElem?_take] at hu
        rw [Nat.zero_add]
        split at hu
        · exact hu
        · cases hu) (fun u hu => by obtain ⟨q, _, rfl⟩ := List.mem_map.1 hu; rfl) (fun u hu => by obtain ⟨q, _, rfl⟩ := List.mem_map.1 hu; rfl) (fun hg => by have h1 := hrowO.tag _ hg; rw [htag g rfl] at h1; cases h1)).mono ?_
      rintro v w4 ⟨ho, hg4, hb4⟩
      obtain ⟨E2, hE2, hrow4, hkp⟩ := row_insL (ns := towI u m) hrowO (by rw [tow_len]; exact ho) (by omega) hg4 hb4
      obtain ⟨v1, v2, v3, rfl⟩ := own_slice hrow4.own
      have hC4 := hcore.ext hE2 (Nat.le_refl _)
      clear hrowO ho hg4 hb4 hS hOo hR2 hM hF
      obtain ⟨so, sr, fresh, mm, hS, hOo, hR2, hM, hF⟩ := id hC4.seq
      have hS4 := hkp.blk hS (by rw [hC4.tp]; simp)
      have ht4 := hC4.tp
      rw [hE2.p, hp] at hS4 ht4
      have hl4 := hS4.lt
      (refine Ga ?_)
      have hkq : Kept E2 (fun t => t = .seq ∨ t = .order) A' ((w4.putObj E.p (.cells [.map (some E2.ma), .slice v1 v2 v3, sr, .map (some E2.mt), .bool fresh].toArray 83)).putObj E.p (.cells [.map (some E2.ma), .slice v1 v2 v3, sr, .map (some E2.mt), .bool false].toArray 83)) :=
        ((hkp.mono fun t ht => .inr ht).trans (.put _ (.inl ht4) _)).trans (.put _ (.inl ht4) _)
      have hfin : Core ((w4.putObj E.p (.cells [.map (some E2.ma), .slice v1 v2 v3, sr, .map (some E2.mt), .bool fresh].toArray 83)).putObj E.p (.cells [.map (some E2.ma), .slice v1 v2 v3, sr, .map (some E2.mt), .bool false].toArray 83)) E2 (ord.take (ord.idxOf u.id + 1) ++ towI u m ++ ord.drop (ord.idxOf u.id + 1)) rt (towL N u m) (towL D u m) (towR ρ1 u m) :=
        hC4.updSeq hkq (fun t ht => ht.elim (fun h => .inr (.inl h)) (fun h => .inr (.inr (.inl h)))) ⟨.slice v1 v2 v3, sr, false, mm, by rw [hE2.p, hp]; exact Blk.put_same (by rw [World.putObj_size]; exact hl4) _ _,
          ((Kept.put (S := fun t => t = .seq) _ ht4 _).trans (Kept.put (S := fun t => t = .seq) _ ht4 _)).row hrow4 (by simp), hkq.row hR2 (by simp), hkq.map hM (by rw [hC4.tmt]; simp), fun e => by cases e⟩
      have hKf := hkept.step hkq (fun g hg => (hE2.old g (Nat.lt_of_lt_of_le hg hkept.size)).trans (hold g hg)) (fun t ht => by rcases ht with rfl | rfl <;> simp)
      refine retQ0n ⟨rfl, E2, hE2.p.trans hp, fun g hg => ?_, fun g hg => ?_, hK.trans hKf, hfin⟩
      · have hgA := Nat.lt_of_lt_of_le hg hK.size
        exact (hE2.old g (Nat.lt_of_lt_of_le hgA hkept.size)).trans (hold g hgA)
      · rw [World.putObj_size, World.putObj_size] at hg
        have hs4 := hkp.size
        exact (hE2.far g hg).trans (hfar1 g (by omega))
end Sq
namespace Sq
open Go Go.RowKit Sx Tl
/-- Each behind the one ahead. -/
def runT (t : Fo) (u : Un) : Nat → Fo
  | 0 => t
  | m + 1 => runT (Fo.put t (nx u)) (nx u) m
theorem chain_uniq {ρ : Id → Rec} {N : List Id} : ∀ {l l' : List Id}, ChainL ρ N l → ChainL ρ N l' → l.head? = l'.head? → l = l'
  | [], [], _, _, _ => rfl
  | [], _ :: _, _, _, h => by cases h
  | _ :: _, [], _, _, h => by cases h
  | j :: l, j' :: l', h, h', e => by
    cases e
    rw [chain_uniq h.2.2 h'.2.2 (h.2.1.symm.trans h'.2.1)]
theorem fits_child {ρ : Id → Rec} : ∀ {t : Fo} {p : Option Id}, Fo.Fits ρ p t → ∀ j ∈ t.ids, ((ρ j).par = p ∧ j ∈ t.tips) ∨ ∃ q ∈ t.ids, (ρ j).par = some q ∧ (j ∈ (ρ q).L ∨ j ∈ (ρ q).R)
  | .nil, _, _, j, h => by cases h
  | .nd v l r s, p, hF, j, h => by
    obtain ⟨h1, hl, hr, hs⟩ := hF
    have hin : ∀ i, i ∈ l.ids ∨ i = v.id ∨ i ∈ r.ids ∨ i ∈ s.ids → i ∈ (Fo.nd v l r s).ids := fun i hi => by
      rw [Fo.ids_nd]
      simp only [List.mem_append, List.mem_cons]
      rcases hi with h | h | h | h
      · exact .inl (.inl h)
      · exact .inl (.inr (.inl h))
      · exact .inl (.inr (.inr h))
      · exact .inr h
    rw [Fo.ids_nd] at h
    simp only [List.mem_append, List.mem_cons] at h
    rcases h with (h | rfl | h) | h
    · rcases fits_child hl j h with ⟨a, b⟩ | ⟨q, a, b⟩
      · exact .inr ⟨v.id, hin _ (.inr (.inl rfl)), a, .inl (by rw [h1]; exact b)⟩
      · exact .inr ⟨q, hin _ (.inl a), b⟩
    · exact .inl ⟨by rw [h1], List.mem_cons_self ..⟩
    · rcases fits_child hr j h with ⟨a, b⟩ | ⟨q, a, b⟩
      · exact .inr ⟨v.id, hin _ (.inr (.inl rfl)), a, .inr (by rw [h1]; exact b)⟩
      · exact .inr ⟨q, hin _ (.inr (.inr (.inl a))), b⟩
    · rcases fits_child hs j h with ⟨a, b⟩ | ⟨q, a, b⟩
      · exact .inl ⟨a, List.mem_cons_of_mem _ b⟩
      · exact .inr ⟨q, hin _ (.inr (.inr (.inr a))), b⟩
theorem chain_has {ρ : Id → Rec} {N : List Id} : ∀ {l : List Id} {k a : Id}, k ∈ N → (ρ k).par = l.head? → ChainL ρ N l → a ∈ l → ∃ j ∈ N, (ρ j).par = some a
  | [], _, _, _, _, _, h => by cases h
  | b :: l, k, a, hk, hp, hc, h => by
    rcases List.mem_cons.1 h with rfl | h
    · exact ⟨k, hk, hp⟩
    · exact chain_has hc.1 hc.2.1 hc.2.2 h
/-- One that has no children is above none. -/
theorem leaf_up {ρ : Id → Rec} {t : Fo} (hn : t.ids.Nodup) (hF : Fo.Fits ρ none t) {a k : Id} (hk : k ∈ t.ids) (hL : (ρ a).L = []) (hR : (ρ a).R = []) : a ∉ Fo.upL t k := fun h => by
  obtain ⟨j, hj, hp⟩ := chain_has hk (par_up hn hF hk) (chain_up hn hF _ _ rfl) h
  rcases fits_child hF j hj with ⟨e, _⟩ | ⟨q, _, e, h'⟩
  · rw [hp] at e; cases e
  · rw [hp] at e
    cases e
    rw [hL, hR] at h'
    rcases h' with h' | h' <;> cases h'
/-- One behind the last one: all that is told. -/
theorem run_one {ρ : Id → Rec} {t : Fo} {u : Un} (hg : Fo.Good t) (hF : Fo.Fits ρ none t) (hu : u ∈ t.flat) (hL : (ρ u.id).L = []) (hR : (ρ u.id).R = []) (hc : Fo.Can t (nx u)) :
    ∃ k P, Puts ρ t (nx u) (Fo.upL t u.r) (u.id :: Fo.upL t u.id) ⟨false, some u.id, k⟩ P := by
  have hui : u.id ∈ t.ids := List.mem_map.2 ⟨u, hu, rfl⟩
  have hl : Fo.isL t (nx u) = false := by
    unfold Fo.isL
    by_cases hr : u.r ∈ t.ids
    · have h1 : (nx u).r ∈ t.ids := hr
      have h2 : (nx u).l ∈ t.ids := hui
      have h3 : (nx u).l ∉ Fo.upL t (nx u).r := leaf_up hg.nd hF hr hL hR
      simp [h1, h2, h3]
    · have h1 : (nx u).r ∉ t.ids := hr
      simp [h1]
  exact puts_right_l hg hF hc hl hui
theorem towL_mem : ∀ {m : Nat} {N : List Id} {u : Un} {k : Id}, k ∈ towL N u m ↔ k ∈ N ∨ k ∈ towI u m
  | 0, N, u, k => ⟨.inl, fun h => h.elim id fun h => by cases h⟩
  | m + 1, N, u, k => by
    show k ∈ towL ((nx u).id :: N) (nx u) m ↔ _
    rw [towL_mem, towI_succ, List.mem_cons, List.mem_cons]
    exact ⟨fun h => h.elim (fun h => h.elim (fun e => .inr (.inl e)) .inl) (fun h => .inr (.inr h)), fun h => h.elim (fun h => .inl (.inr h)) (fun h => h.elim (fun e => .inl (.inl e)) .inr)⟩
theorem run_fits : ∀ (m : Nat) {ρ : Id → Rec} {t : Fo} {u : Un}, Fo.Good t → Fo.Fits ρ none t → u ∈ t.flat → (ρ u.id).L = [] → (ρ u.id).R = [] → (∀ k ∈ towI u m, k ∉ t.ids) → Fo.rightId u.id = true → u.id.2 + m ≤ 9007199254740991 →
    Fo.Fits (towR (bump m (u.id :: Fo.upL t u.id) ρ) u m) none (runT t u m) ∧ Fo.Good (runT t u m) ∧ (runT t u m).tips = t.tips ∧ (runT t u m).ids = t.ids.take (t.pos u.id + 1) ++ towI u m ++ t.ids.drop (t.pos u.id + 1) ∧ (∀ k, k ∈ (runT t u m).ids ↔ k ∈ towL t.ids u m)
  | 0, ρ, t, u, hg, hF, hu, hL, hR, hnew, hr, hclk => by
    have e : bump 0 (u.id :: Fo.upL t u.id) ρ = ρ := funext fun j => by
      unfold bump
      split <;> rfl
    refine ⟨by unfold towR; rw [e]; exact hF, hg, rfl, ?_, fun k => Iff.rfl⟩
    show t.ids = _ ++ [] ++ _
    rw [List.append_nil, List.take_append_drop]
  | m + 1, ρ, t, u, hg, hF, hu, hL, hR, hnew, hr, hclk => by
    have hui : u.id ∈ t.ids := List.mem_map.2 ⟨u, hu, rfl⟩
    have hx : (nx u).id ∉ t.ids := hnew _ (by rw [towI_succ]; exact List.mem_cons_self ..)
    have hxr : Fo.rightId (nx u).id = true := by
      unfold Fo.rightId Fo.num at hr ⊢
      simp only [Bool.and_eq_true, decide_eq_true_eq] at hr ⊢
      have e1 : (nx u).id.1 = u.id.1 := rfl
      have e2 : (nx u).id.2 = u.id.2 + 1 := rfl
      omega
    have hc : Fo.Can t (nx u) := ⟨hxr, hx, .inr hui, (hg.org u hu).2⟩
    obtain ⟨k, P, hP⟩ := run_one hg hF hu hL hR hc
    have hg1 := hg.put hc
    have hk0 : k = 0 := by
      have h1 := hP.hW
      rw [if_neg (by simp)] at h1
      have h2 := h1.1.kl
      rw [← h1.2] at h2
      have h3 : (rowOf ρ t.tips (some u.id)).length = 0 := by show (ρ u.id).R.length = 0; rw [hR]; rfl
      dsimp only at h2
      omega
    subst hk0
    have hF1 := hP.fits
    have hxne := nx_ne u
    have hxc : (nx u).id ∉ u.id :: Fo.upL t u.id := fun h => (List.mem_cons.1 h).elim hxne fun h => hx (Fo.upL_sub h)
    have hlx := laid_new (ρ := ρ) (rt := t.tips) (u := nx u) (V := ⟨false, some u.id, 0⟩) (fun h => by cases h) (fun p e => by cases e; exact hxne)
    have hlu : laid (fset ρ (nx u).id (newRec (nx u))) t.tips (nx u).id ⟨false, some u.id, 0⟩ u.id = { ρ u.id with R := [(nx u).id] } := by
      have e : (fset ρ (nx u).id (newRec (nx u))) u.id = ρ u.id := fset_ne (Ne.symm hxne)
      unfold laid recR
      rw [if_neg (by simp)]
      dsimp only [rowOf]
      rw [fset_same, fset_ne (Ne.symm hxne), e, hR]
      rfl
    have hlo : ∀ j, j ≠ (nx u).id → j ≠ u.id → laid (fset ρ (nx u).id (newRec (nx u))) t.tips (nx u).id ⟨false, some u.id, 0⟩ j = ρ j := fun j h1 h2 => laid_far h1 (fun p e => by cases e; exact h2)
    have hPp : P = t.pos u.id + 1 := by
      have h1 := hP.hP
      rw [if_neg (by simp), List.take_zero] at h1
      dsimp only [place0] at h1
      rw [findV_pos hui] at h1
      have h2 : sumN ρ [] = 0 := rfl
      omega
    have hids := hP.ids
    have htips := hP.tips
    rw [if_neg (by simp)] at htips
    dsimp only [rtR] at htips
    have hmem : ∀ k, k ∈ (Fo.put t (nx u)).ids ↔ k = (nx u).id ∨ k ∈ t.ids := Fo.put_ids hg.nd
    have hPl := hP.hPl
    have hch := hP.hch.1
    clear hP
    generalize laid (fset ρ (nx u).id (newRec (nx u))) t.tips (nx u).id ⟨false, some u.id, 0⟩ = τ at *
    have hup : Fo.upL (Fo.put t (nx u)) (nx u).id = u.id :: Fo.upL t u.id := by
      have h1 := par_up hg1.nd hF1 ((hmem _).2 (.inl rfl))
      rw [bump_out hxc, hlx] at h1
      refine chain_uniq (chain_up hg1.nd hF1 _ _ rfl) (ChainL.congr (fun j hj => ⟨(hmem j).2 (.inr hj), ?_⟩) hch) h1.symm
      show (τ j).par = _
      by_cases e : j = u.id
      · subst e
        rw [hlu]
      · rw [hlo j (fun e' => hx (e' ▸ hj)) e]
    have ih := run_fits m hg1 hF1 ((Fo.put_mem hg.nd _).2 (.inl rfl)) (by rw [bump_out hxc, hlx]) (by rw [bump_out hxc, hlx]) (fun k hk hm => by
      rcases (hmem k).1 hm with rfl | h
      · exact Nat.lt_irrefl _ (tow_mem hk).2.1
      · exact hnew k (by rw [towI_succ]; exact List.mem_cons_of_mem _ hk) h) hxr (by show u.id.2 + 1 + m ≤ _; omega)
    rw [hup] at ih
    have heq : bump m ((nx u).id :: u.id :: Fo.upL t u.id) (bump 1 (u.id :: Fo.upL t u.id) τ) = fset (fset (bump (m + 1) (u.id :: Fo.upL t u.id) ρ) (nx u).id ⟨nx u, some u.id, [], [], m + 1⟩) u.id { bump (m + 1) (u.id :: Fo.upL t u.id) ρ u.id with R := [(nx u).id] } := funext fun j => by
      by_cases e1 : j = u.id
      · subst e1
        rw [fset_same]
        unfold bump
        rw [if_pos (List.mem_cons_of_mem _ (List.mem_cons_self ..)), if_pos (List.mem_cons_self ..), if_pos (List.mem_cons_self ..), hlu]
        simp only [Rec.mk.injEq, true_and]
        omega
      · rw [fset_ne e1]
        by_cases e2 : j = (nx u).id
        · subst e2
          rw [fset_same]
          unfold bump
          rw [if_pos (List.mem_cons_self ..), if_neg hxc, hlx]
          simp only [Rec.mk.injEq, true_and]
          omega
        · rw [fset_ne e2]
          unfold bump
          rw [hlo j e2 e1]
          have h1 : j ∈ (nx u).id :: u.id :: Fo.upL t u.id ↔ j ∈ u.id :: Fo.upL t u.id := by rw [List.mem_cons]; exact ⟨fun h => h.resolve_left e2, .inr⟩
          simp only [h1]
          simp only [Rec.mk.injEq, true_and]
          split <;> omega
    have hpx : (Fo.put t (nx u)).pos (nx u).id = P := by
      unfold Fo.pos
      rw [← hids, List.idxOf_append, if_neg (fun h => hx (List.mem_of_mem_take h)), List.idxOf_cons_self, List.length_take]
      omega
    refine ⟨?_, ih.2.1, ih.2.2.1.trans htips.symm, ?_, fun k => ?_⟩
    · have h1 := ih.1
      rw [heq] at h1
      exact h1
    · have h1 := ih.2.2.2.1
      show (runT (Fo.put t (nx u)) (nx u) m).ids = _
      rw [h1, hpx, ← hids, towI_succ, ← hPp]
      have e1 : (t.ids.take P ++ (nx u).id :: t.ids.drop P).take (P + 1) = t.ids.take P ++ [(nx u).id] := by
        rw [List.take_append, List.take_of_length_le (by rw [List.length_take]; omega), List.length_take]
        have : P + 1 - min P t.ids.length = 1 := by omega
        rw [this]
        rfl
      have e2 : (t.ids.take P ++ (nx u).id :: t.ids.drop P).drop (P + 1) = t.ids.drop P := by
        rw [List.drop_append, List.drop_of_length_le (by rw [List.length_take]; omega), List.length_take]
        have : P + 1 - min P t.ids.length = 1 := by omega
        rw [this]
        rfl
      rw [e1, e2]
      simp
    · show k ∈ (runT (Fo.put t (nx u)) (nx u) m).ids ↔ k ∈ towL ((nx u).id :: t.ids) (nx u) m
      rw [ih.2.2.2.2 k, towL_mem, towL_mem, hmem, List.mem_cons]
end Sq
end Go.Proofs.YtmgipnckojopcaaGreat
