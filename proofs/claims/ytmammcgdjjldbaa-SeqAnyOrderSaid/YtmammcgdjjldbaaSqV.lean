/- may, Insert, New. -/
import Derived.Test.YtmammcgdjjldbaaSqU
namespace Go.Proofs.Ytmammcgdjjldbaa
set_option maxRecDepth 100000
namespace Sq
open Go Go.RowKit Sx Tl
variable {E : Env} {ord rt N D : List Id} {ρ : Id → Rec} {w : World}
def thereV (D : List Id) (k : Id) : Bool := decide (k = Fo.none') || decide (k ∈ D)
def mayV (ord D : List Id) (u : Un) : Bool := Fo.rightId u.id && !decide (u.id ∈ D) && thereV D u.l && thereV D u.r && (decide (u.l = Fo.none') || decide (u.r = Fo.none') || decide (findV ord D u.l < findV ord D u.r))
theorem lookPtr (D : List Id) (k : Id) : ∃ lo, (if k ∈ D then pv E k else .pointer none) = Value.pointer lo ∧ (!lo.isNone) = decide (k ∈ D) := by
  by_cases e : k ∈ D
  · rw [if_pos e, decide_eq_true e]
    exact ⟨_, rfl, rfl⟩
  · rw [if_neg e, decide_eq_false e]
    exact ⟨_, rfl, rfl⟩
attribute [local irreducible] W Lst Qst Pu seqQ blkQ rndQ cutQ retQ Does Enters IntKind.wrap bits sb World.alloc World.putObj Blk
theorem c_there (k : Id) (b : Nat) (hb : Blk w b [.pointer (some ⟨E.p, 0, none⟩)] 27) (h : Core w E ord rt N D ρ) :
    Does Try.prog 45 #[idv k, .pointer (some ⟨b, 0, none⟩)] w fun v w' => v = .bool (thereV D k) ∧ Below w.heap.size w w' := by
  refine Does_of (args := [idv k, .pointer (some ⟨b, 0, none⟩)]) Try.func45 (by kernel_rfl) rfl rfl rfl rfl rfl ?_
  (refine Ga ?_)
  obtain ⟨X, hXe⟩ : ∃ X, w.alloc (.cells (idcs k).toArray 32) = X := ⟨_, rfl⟩
  have hbX : Below w.heap.size w X := by rw [← hXe]; exact Bel
  have kX : Blk X w.heap.size (idcs k) 32 := by rw [← hXe]; exact (by (repeat (first | assumption | (apply Blk.below (hb := hb1); rotate_left; (focus ((try simp only [Sx.sizes]); omega)); rotate_right) | (apply Blk.below (hb := hb2); rotate_left; (focus ((try simp only [Sx.sizes]); omega)); rotate_right) | (apply Blk.below (hb := hb3); rotate_left; (focus ((try simp only [Sx.sizes]); omega)); rotate_right) | (apply Blk.below (hb := hb4); rotate_left; (focus ((try simp only [Sx.sizes]); omega)); rotate_right) | (apply Blk.below (hb := hb5); rotate_left; (focus ((try simp only [Sx.sizes]); omega)); rotate_right) | (apply Blk.below (hb := hb6); rotate_left; (focus ((try simp only [Sx.sizes]); omega)); rotate_right) | (apply Blk.below (hb := hb7); rotate_left; (focus ((try simp only [Sx.sizes]); omega)); rotate_right) | (apply Blk.below (hb := hb8); rotate_left; (focus ((try simp only [Sx.sizes]); omega)); rotate_right) | (apply Blk.below (hb := hb9); rotate_left; (focus ((try simp only [Sx.sizes]); omega)); rotate_right) | exact Blk.newE (by first | rfl | ((try simp only [Sx.sizes]); first | done | omega)) _ _ | exact Blk.put_same (by (try simp only [Sx.sizes]); first | done | omega) _ _ | (apply Blk.put_ne; (focus omega)) | apply Blk.alloc | apply Blk.drew)); done)
  rw [hXe]
  clear hXe
  have hX := h.below hbX
  have hB := hb.below hbX hb.lt
  obtain ⟨so, sr, fresh, m, hS, hOo, hR, hM, hF⟩ := id hX.seq
  have ltX := kX.lt
  have ltS := hS.lt
  have ltB := hB.lt
  obtain ⟨lo, hlo, hloN⟩ := lookPtr (E := E) D k
  have hnn := fun A => n_none k A
  by_cases e : k = Fo.none'
  · rw [decide_eq_true e] at hnn
    have ht : thereV D k = true := by unfold thereV; rw [decide_eq_true e]; rfl
    refine W_draws (Grown _) rfl (by kernel_rfl) (grown_start _) ?_
    (refine Qb ?_)
    apply Qst_call (.bool true)
    focus rfl
    focus rfl
    · intro A9 hb9
      exact (hnn A9).mono fun v w' h => ⟨h.1, Sx.Below.after hb9 h.2⟩
    (refine Qb ?_)
    intro w8 hb8
    (refine Ga ?_)
    (apply retQ1; (focus rfl))
    exact ⟨by rw [ht]; rfl, hbX.trans (hb8.mono hbX.size)⟩
  · rw [decide_eq_false e] at hnn
    have ht : thereV D k = !lo.isNone := by unfold thereV; rw [decide_eq_false e, hloN]; rfl
    refine W_draws (Grown _) rfl (by kernel_rfl) (grown_start _) ?_
    (refine Qb ?_)
    apply Qst_call (.bool false)
    focus rfl
    focus rfl
    · intro A9 hb9
      exact (hnn A9).mono fun v w' h => ⟨h.1, Sx.Below.after hb9 h.2⟩
    (refine Qb ?_)
    apply Qst_lookup
    focus rfl
    focus rfl
    focus exact fun A9 hA9 => ((hX.below hA9).lookAll k).trans (by rw [hlo])
    focus rfl
    (refine Qb ?_)
    intro w8 hb8
    (refine Ga ?_)
    (apply retQ1; (focus rfl))
    exact ⟨by rw [ht]; rfl, hbX.trans (hb8.mono hbX.size)⟩
set_option maxHeartbeats 2000000 in
theorem c_may (u : Un) (hfar : ∀ g, w.heap.size ≤ g → E.tg g = .other) (hD : ∀ j, j ∈ ord ↔ j ∈ D) (hN : ∀ j ∈ ord, j ∈ N ∧ (ρ j).u.id = j) (hnd : ord.Nodup) (hlen : ord.length ≤ 1000000000) (h : Core w E ord rt N D ρ) :
    Does Try.prog 32 #[.pointer (some ⟨E.p, 0, none⟩), .agg (ucs u).toArray] w fun v w' => v = .bool (mayV ord D u) ∧ Core w' E ord rt N D ρ ∧ Kept E SF w w' := by
  refine Does_of (args := [.pointer (some ⟨E.p, 0, none⟩), .agg (ucs u).toArray]) Try.func32 (by kernel_rfl) rfl rfl rfl rfl rfl ?_
  (refine Ga ?_)
  obtain ⟨X, hXe⟩ : ∃ X, (w.alloc (.cells [.pointer (some ⟨E.p, 0, none⟩)].toArray 27)).alloc (.cells (ucs u).toArray 34) = X := ⟨_, rfl⟩
  have hbX : Below w.heap.size w X := by rw [← hXe]; exact Bel
  have kB : Blk X w.heap.size [.pointer (some ⟨E.p, 0, none⟩)] 27 := by rw [← hXe]; exact (by (repeat (first | assumption | (apply Blk.below (hb := hb1); rotate_left; (focus ((try simp only [Sx.sizes]); omega)); rotate_right) | (apply Blk.below (hb := hb2); rotate_left; (focus ((try simp only [Sx.sizes]); omega)); rotate_right) | (apply Blk.below (hb := hb3); rotate_left; (focus ((try simp only [Sx.sizes]); omega)); rotate_right) | (apply Blk.below (hb := hb4); rotate_left; (focus ((try simp only [Sx.sizes]); omega)); rotate_right) | (apply Blk.below (hb := hb5); rotate_left; (focus ((try simp only [Sx.sizes]); omega)); rotate_right) | (apply Blk.below (hb := hb6); rotate_left; (focus ((try simp only [Sx.sizes]); omega)); rotate_right) | (apply Blk.below (hb := hb7); rotate_left; (focus ((try simp only [Sx.sizes]); omega)); rotate_right) | (apply Blk.below (hb := hb8); rotate_left; (focus ((try simp only [Sx.sizes]); omega)); rotate_right) | (apply Blk.below (hb := hb9); rotate_left; (focus ((try simp only [Sx.sizes]); omega)); rotate_right) | exact Blk.newE (by first | rfl | ((try simp only [Sx.sizes]); first | done | omega)) _ _ | exact Blk.put_same (by (try simp only [Sx.sizes]); first | done | omega) _ _ | (apply Blk.put_ne; (focus omega)) | apply Blk.alloc | apply Blk.drew)); done)
  have kU : Blk X (w.heap.size + 1) (ucs u) 34 := by rw [← hXe]; exact (by (repeat (first | assumption | (apply Blk.below (hb := hb1); rotate_left; (focus ((try simp only [Sx.sizes]); omega)); rotate_right) | (apply Blk.below (hb := hb2); rotate_left; (focus ((try simp only [Sx.sizes]); omega)); rotate_right) | (apply Blk.below (hb := hb3); rotate_left; (focus ((try simp only [Sx.sizes]); omega)); rotate_right) | (apply Blk.below (hb := hb4); rotate_left; (focus ((try simp only [Sx.sizes]); omega)); rotate_right) | (apply Blk.below (hb := hb5); rotate_left; (focus ((try simp only [Sx.sizes]); omega)); rotate_right) | (apply Blk.below (hb := hb6); rotate_left; (focus ((try simp only [Sx.sizes]); omega)); rotate_right) | (apply Blk.below (hb := hb7); rotate_left; (focus ((try simp only [Sx.sizes]); omega)); rotate_right) | (apply Blk.below (hb := hb8); rotate_left; (focus ((try simp only [Sx.sizes]); omega)); rotate_right) | (apply Blk.below (hb := hb9); rotate_left; (focus ((try simp only [Sx.sizes]); omega)); rotate_right) | exact Blk.newE (by first | rfl | ((try simp only [Sx.sizes]); first | done | omega)) _ _ | exact Blk.put_same (by (try simp only [Sx.sizes]); first | done | omega) _ _ | (apply Blk.put_ne; (focus omega)) | apply Blk.alloc | apply Blk.drew)); done)
  have hcU : ucs u = [.int .u64 (u.id.1 : Int), .int .u64 (u.id.2 : Int), .int .u64 (u.l.1 : Int), .int .u64 (u.l.2 : Int), .int .u64 (u.r.1 : Int), .int .u64 (u.r.2 : Int)] := rfl
  rw [hcU] at kU
  rw [hXe]
  clear hXe
  have hX := h.below hbX
  obtain ⟨so, sr, fresh, m, hS, hOo, hR, hM, hF⟩ := id hX.seq
  have ltB := kB.lt
  have ltU := kU.lt
  have ltS := hS.lt
  obtain ⟨lo, hlo, hloN⟩ := lookPtr (E := E) D u.id
  have hRi := fun A => n_Right u.id A
  have hTl := fun A (hA : Below X.heap.size X A) => c_there u.l w.heap.size (kB.below hA ltB) (hX.below hA)
  have hTr := fun A (hA : Below X.heap.size X A) => c_there u.r w.heap.size (kB.below hA ltB) (hX.below hA)
  have hNl := fun A => n_none u.l A
  have hNr := fun A => n_none u.r A
  have hm : mayV ord D u = (Fo.rightId u.id && !decide (u.id ∈ D) && thereV D u.l && thereV D u.r && (decide (u.l = Fo.none') || decide (u.r = Fo.none') || decide (findV ord D u.l < findV ord D u.r))) := rfl
  rw [← hloN] at hm
  cases e1 : Fo.rightId u.id with
  | false =>
    rw [e1] at hm hRi
    (refine Ga ?_)
    refine W_draws (Grown _) rfl (by kernel_rfl) (grown_start _) ?_
    (refine Qb ?_)
    apply Qst_call (.bool false)
    focus rfl
    focus rfl
    · intro A9 hb9
      exact (hRi A9).mono fun v w' h => ⟨h.1, Sx.Below.after hb9 h.2⟩
    (refine Qb ?_)
    intro w8 hb8
    (refine Ga ?_)
    (apply retQ1; (focus rfl))
    exact ⟨by rw [hm]; rfl, hX.below hb8, .of (hbX.trans (hb8.mono hbX.size))⟩
  | true =>
    rw [e1] at hm hRi
    cases lo with
    | some lo =>
      (refine Ga ?_)
      refine W_draws (Grown _) rfl (by kernel_rfl) (grown_start _) ?_
      (refine Qb ?_)
      apply Qst_call (.bool true)
      focus rfl
      focus rfl
      · intro A9 hb9
        exact (hRi A9).mono fun v w' h => ⟨h.1, Sx.Below.after hb9 h.2⟩
      (refine Qb ?_)
      apply Qst_lookup
      focus rfl
      focus rfl
      focus exact fun A9 hA9 => ((hX.below hA9).lookAll u.id).trans (by rw [hlo])
      focus rfl
      (refine Qb ?_)
      intro w8 hb8
      (refine Ga ?_)
      (apply retQ1; (focus rfl))
      exact ⟨by rw [hm]; rfl, hX.below hb8, .of (hbX.trans (hb8.mono hbX.size))⟩
    | none =>
      cases e2 : thereV D u.l with
      | false =>
        rw [e2] at hm hTl
        (refine Ga ?_)
        refine W_draws (Grown _) rfl (by kernel_rfl) (grown_start _) ?_
        (refine Qb ?_)
        apply Qst_call (.bool true)
        focus rfl
        focus rfl
        · intro A9 hb9
          exact (hRi A9).mono fun v w' h => ⟨h.1, Sx.Below.after hb9 h.2⟩
        (refine Qb ?_)
        apply Qst_lookup
        focus rfl
        focus rfl
        focus exact fun A9 hA9 => ((hX.below hA9).lookAll u.id).trans (by rw [hlo])
        focus rfl
        (refine Qb ?_)
        apply Qst_call (.bool false)
        focus rfl
        focus rfl
        · intro A9 hb9
          exact (hTl A9 hb9).mono fun v w' h => ⟨h.1, Sx.Below.after hb9 h.2⟩
        (refine Qb ?_)
        intro w8 hb8
        (refine Ga ?_)
        (apply retQ1; (focus rfl))
        exact ⟨by rw [hm]; rfl, hX.below hb8, .of (hbX.trans (hb8.mono hbX.size))⟩
      | true =>
        rw [e2] at hm hTl
        cases e3 : thereV D u.r with
        | false =>
          rw [e3] at hm hTr
          (refine Ga ?_)
          refine W_draws (Grown _) rfl (by kernel_rfl) (grown_start _) ?_
          (refine Qb ?_)
          apply Qst_call (.bool true)
          focus rfl
          focus rfl
          · intro A9 hb9
            exact (hRi A9).mono fun v w' h => ⟨h.1, Sx.Below.after hb9 h.2⟩
          (refine Qb ?_)
          apply Qst_lookup
          focus rfl
          focus rfl
          focus exact fun A9 hA9 => ((hX.below hA9).lookAll u.id).trans (by rw [hlo])
          focus rfl
          (refine Qb ?_)
          apply Qst_call (.bool true)
          focus rfl
          focus rfl
          · intro A9 hb9
            exact (hTl A9 hb9).mono fun v w' h => ⟨h.1, Sx.Below.after hb9 h.2⟩
          (refine Qb ?_)
          apply Qst_call (.bool false)
          focus rfl
          focus rfl
          · intro A9 hb9
            exact (hTr A9 hb9).mono fun v w' h => ⟨h.1, Sx.Below.after hb9 h.2⟩
          (refine Qb ?_)
          intro w8 hb8
          (refine Ga ?_)
          (apply retQ1; (focus rfl))
          exact ⟨by rw [hm]; rfl, hX.below hb8, .of (hbX.trans (hb8.mono hbX.size))⟩
        | true =>
          rw [e3] at hm hTr
          (refine Ga ?_)
          refine W_draws (Grown _) rfl (by kernel_rfl) (grown_start _) ?_
          (refine Qb ?_)
          apply Qst_call (.bool true)
          focus rfl
          focus rfl
          · intro A9 hb9
            exact (hRi A9).mono fun v w' h => ⟨h.1, Sx.Below.after hb9 h.2⟩
          (refine Qb ?_)
          apply Qst_lookup
          focus rfl
          focus rfl
          focus exact fun A9 hA9 => ((hX.below hA9).lookAll u.id).trans (by rw [hlo])
          focus rfl
          (refine Qb ?_)
          apply Qst_call (.bool true)
          focus rfl
          focus rfl
          · intro A9 hb9
            exact (hTl A9 hb9).mono fun v w' h => ⟨h.1, Sx.Below.after hb9 h.2⟩
          (refine Qb ?_)
          apply Qst_call (.bool true)
          focus rfl
          focus rfl
          · intro A9 hb9
            exact (hTr A9 hb9).mono fun v w' h => ⟨h.1, Sx.Below.after hb9 h.2⟩
          (refine Qb ?_)
          intro w8 hb8
          have kB8 := kB.below hb8 ltB
          have kU8 := kU.below hb8 ltU
          have h8 := hX.below hb8
          have hbw := hbX.trans (hb8.mono hbX.size)
          have htB : E.tg w.heap.size = .other := hfar _ (Nat.le_refl _)
          have htU : E.tg (w.heap.size + 1) = .other := hfar _ (Nat.le_succ _)
          clear kB kU hS ltB ltU ltS
          have ltB := kB8.lt
          have ltU := kU8.lt
          by_cases e4 : u.l = Fo.none'
          · rw [decide_eq_true e4] at hm hNl
            (refine Ga ?_)
            refine W_draws (Grown _) rfl (by kernel_rfl) (grown_start _) ?_
            (refine Qb ?_)
            apply Qst_call (.bool true)
            focus rfl
            focus rfl
            · intro A9 hb9
              exact (hNl A9).mono fun v w' h => ⟨h.1, Sx.Below.after hb9 h.2⟩
            (refine Qb ?_)
            intro w7 hb7
            (refine Ga ?_)
            (apply retQ1; (focus rfl))
            exact ⟨by rw [hm]; rfl, (hX.below hb8).below hb7, .of (hbw.trans (hb7.mono hbw.size))⟩
          · rw [decide_eq_false e4] at hm hNl
            by_cases e5 : u.r = Fo.none'
            · rw [decide_eq_true e5] at hm hNr
              (refine Ga ?_)
              refine W_draws (Grown _) rfl (by kernel_rfl) (grown_start _) ?_
              (refine Qb ?_)
              apply Qst_call (.bool false)
              focus rfl
              focus rfl
              · intro A9 hb9
                exact (hNl A9).mono fun v w' h => ⟨h.1, Sx.Below.after hb9 h.2⟩
              (refine Qb ?_)
              apply Qst_call (.bool true)
              focus rfl
              focus rfl
              · intro A9 hb9
                exact (hNr A9).mono fun v w' h => ⟨h.1, Sx.Below.after hb9 h.2⟩
              (refine Qb ?_)
              intro w7 hb7
              (refine Ga ?_)
              (apply retQ1; (focus rfl))
              exact ⟨by rw [hm]; rfl, (hX.below hb8).below hb7, .of (hbw.trans (hb7.mono hbw.size))⟩
            · rw [decide_eq_false e5] at hm hNr
              (refine Ga ?_)
              refine W_draws (fun A => Core A E ord rt N D ρ ∧ Kept E SF w8 A) rfl (by kernel_rfl) ⟨h8.below (Below.drew (Below.refl _ _)), .of (Below.drew (Below.refl _ _))⟩ ?_
              (refine Qb ?_)
              apply Qst_loadA
              focus rfl
              focus rfl
              focus rfl
              focus rfl
              focus rfl
              focus exact fun A9 hA9 => hA9.2.blk kU8 (by rw [htU]; simp)
              focus (repeat constructor)
              focus rfl
              (refine Qb ?_)
              apply Qst_call (.bool false)
              focus rfl
              focus rfl
              · intro A9 hA9
                exact (hNl A9).mono fun v w' h => ⟨h.1, hA9.1.below h.2, hA9.2.trans (.of h.2)⟩
              (refine Qb ?_)
              apply Qst_loadA
              focus rfl
              focus rfl
              focus rfl
              focus rfl
              focus rfl
              focus exact fun A9 hA9 => hA9.2.blk kU8 (by rw [htU]; simp)
              focus (repeat constructor)
              focus rfl
              (refine Qb ?_)
              apply Qst_call (.bool false)
              focus rfl
              focus rfl
              · intro A9 hA9
                exact (hNr A9).mono fun v w' h => ⟨h.1, hA9.1.below h.2, hA9.2.trans (.of h.2)⟩
              (refine Qb ?_)
              apply Qst_load
              focus rfl
              focus rfl
              focus rfl
              focus exact fun A9 hA9 => hA9.2.blk kB8 (by rw [htB]; simp)
              focus rfl
              focus rfl
              (refine Qb ?_)
              apply Qst_loadA
              focus rfl
              focus rfl
              focus rfl
              focus rfl
              focus rfl
              focus exact fun A9 hA9 => hA9.2.blk kU8 (by rw [htU]; simp)
              focus (repeat constructor)
              focus rfl
              (refine Qb ?_)
              apply Qst_call (.int .i64 (findV ord D u.l))
              focus rfl
              focus rfl
              · intro A9 hA9
                exact (c_Find u.l hD hN hnd hlen hA9.1).mono fun v w' h => ⟨h.1, h.2.1, hA9.2.trans h.2.2⟩
              (refine Qb ?_)
              apply Qst_load
              focus rfl
              focus rfl
              focus rfl
              focus exact fun A9 hA9 => hA9.2.blk kB8 (by rw [htB]; simp)
              focus rfl
              focus rfl
              (refine Qb ?_)
              apply Qst_loadA
              focus rfl
              focus rfl
              focus rfl
              focus rfl
              focus rfl
              focus exact fun A9 hA9 => hA9.2.blk kU8 (by rw [htU]; simp)
              focus (repeat constructor)
              focus rfl
              (refine Qb ?_)
              apply Qst_call (.int .i64 (findV ord D u.r))
              focus rfl
              focus rfl
              · intro A9 hA9
                exact (c_Find u.r hD hN hnd hlen hA9.1).mono fun v w' h => ⟨h.1, h.2.1, hA9.2.trans h.2.2⟩
              (refine Qb ?_)
              by_cases hlt : findV ord D u.l < findV ord D u.r
              · rw [decide_eq_true hlt] at hm
                generalize findV ord D u.l = x1 at *
                generalize findV ord D u.r = x2 at *
                (refine Qb ?_)
                rintro w7 ⟨h7, hk7⟩
                (refine Ga ?_)
                (apply retQ1; (focus rfl))
                exact ⟨by rw [hm]; rfl, h7, (Kept.of hbw).trans hk7⟩
              · rw [decide_eq_false hlt] at hm
                generalize findV ord D u.l = x1 at *
                generalize findV ord D u.r = x2 at *
                (refine Qb ?_)
                rintro w7 ⟨h7, hk7⟩
                (refine Ga ?_)
                (apply retQ1; (focus rfl))
                exact ⟨by rw [hm]; rfl, h7, (Kept.of hbw).trans hk7⟩
end Sq
end Go.Proofs.Ytmammcgdjjldbaa
