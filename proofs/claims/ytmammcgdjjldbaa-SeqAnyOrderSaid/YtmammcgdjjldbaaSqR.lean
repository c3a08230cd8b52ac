/- Right children. -/
import Derived.Test.YtmammcgdjjldbaaSqL
namespace Go.Proofs.Ytmammcgdjjldbaa
set_option maxRecDepth 100000
namespace Sq
open Go Go.RowKit Sx Tl
variable {E : Env} {ord rt N D : List Id} {ρ : Id → Rec} {w : World}
def rowOf (ρ : Id → Rec) (rt : List Id) : Option Id → List Id
  | none => rt
  | some p => (ρ p).R
def hB (E : Env) : Option Id → Nat
  | none => E.p
  | some p => E.ad p
def hO : Option Id → Nat
  | none => 2
  | some _ => 8
def hT : Option Id → Tag
  | none => .root
  | some p => .right p
def place0 (ord D : List Id) : Option Id → Int
  | none => 0
  | some p => findV ord D p + 1
theorem Core.hold (h : Core w E ord rt N D ρ) (par : Option Id) (hp : ∀ p, par = some p → p ∈ N) : ∃ sl, w.cell? ⟨hB E par, hO par, none⟩ = some sl ∧ RowAt w E (hT par) sl (rowOf ρ rt par) := by
  cases par with
  | none =>
    obtain ⟨so, sr, fresh, m, hS, hO, hR, hM, hF⟩ := h.seq
    exact ⟨sr, by show w.cell? ⟨E.p, 2, none⟩ = _; rw [hS.cell]; rfl, hR⟩
  | some p =>
    obtain ⟨ht, sl, sr, hb, hl, hr⟩ := h.nodes p (hp p rfl)
    exact ⟨sr, by show w.cell? ⟨E.ad p, 8, none⟩ = _; rw [hb.cell]; rfl, hr⟩
/-- The record behind a right child has come. -/
def recR (ρ : Id → Rec) (par : Option Id) (l : List Id) : Id → Rec := match par with
  | none => ρ
  | some p => fset ρ p { ρ p with R := l }
def rtR (rt : List Id) (par : Option Id) (l : List Id) : List Id := match par with
  | none => l
  | some _ => rt
attribute [local irreducible] W Lst Qst Pu seqQ blkQ rndQ cutQ retQ Does Enters IntKind.wrap bits sb World.alloc World.putObj Blk
set_option maxHeartbeats 2000000 in
theorem c_rightOf (x : Id) (par : Option Id) (k : Nat) (hxN : x ∈ N) (hp : ∀ p, par = some p → p ∈ N ∧ p ≠ x ∧ (ρ p).u.id = p) (hxu : (ρ x).u.id = x) (hL : ∀ j ∈ rowOf ρ rt par, j ∈ N ∧ j ≠ x) (hLl : (rowOf ρ rt par).length ≤ 1000000000 - 1) (hn : ∀ j ∈ rowOf ρ rt par, (ρ j).n ≤ 1000000000)
    (hkl : k ≤ (rowOf ρ rt par).length) (hk1 : ∀ i (hi : i < (rowOf ρ rt par).length), i < k → aheadV ord D (ρ (rowOf ρ rt par)[i]).u (ρ x).u = true) (hk2 : ∀ i (hi : i < (rowOf ρ rt par).length), i = k → aheadV ord D (ρ (rowOf ρ rt par)[i]).u (ρ x).u = false)
    (hD : ∀ j, j ∈ ord ↔ j ∈ D) (hN : ∀ j ∈ ord, j ∈ N ∧ (ρ j).u.id = j) (hnd : ord.Nodup) (hlen : ord.length ≤ 1000000000) (h : Core w E ord rt N D ρ) :
    Does Try.prog 49 #[.pointer (some ⟨E.p, 0, none⟩), pv E x, parv E par] w fun v w' => v = .int .i64 (place0 ord D par + (sumN ρ ((rowOf ρ rt par).take k) : Int)) ∧
      ∃ E', Ex E w E' w' ∧ Kept E SA w w' ∧ Core w' E' ord (rtR rt par ((rowOf ρ rt par).take k ++ x :: (rowOf ρ rt par).drop k)) N D (recR (fset ρ x { ρ x with par := par }) par ((rowOf ρ rt par).take k ++ x :: (rowOf ρ rt par).drop k)) := by
  refine Does_of (args := [.pointer (some ⟨E.p, 0, none⟩), pv E x, parv E par]) Try.func49 (by kernel_rfl) rfl rfl rfl rfl rfl ?_
  obtain ⟨htx, xl, xr, hbx, hxl, hxr⟩ := h.nodes x hxN
  have hlx := hbx.lt
  have hKx := Kept.put (S := fun t => t = .node x) (w := w) (E.ad x) htx (.cells (ncs E { ρ x with par := par } xl xr).toArray 78)
  have hnx : NodeAt (w.putObj (E.ad x) (.cells (ncs E { ρ x with par := par } xl xr).toArray 78)) E x { ρ x with par := par } :=
    ⟨htx, xl, xr, Blk.put_same hlx _ _, hKx.row hxl (by simp), hKx.row hxr (by simp)⟩
  have h1 := h.updNode hKx (fun t ht => .inr (.inl ht)) hnx
  have hK1 : Kept E SA w _ := hKx.mono (T := SA) fun t ht => by rw [ht]; simp
  clear hKx hnx
  obtain ⟨w1, hw1⟩ : ∃ w1, w.putObj (E.ad x) (.cells (ncs E { ρ x with par := par } xl xr).toArray 78) = w1 := ⟨_, rfl⟩
  rw [hw1] at h1 hK1
  have hN1 : ∀ j ∈ ord, j ∈ N ∧ (fset ρ x { ρ x with par := par } j).u.id = j := fun j hj => by
    by_cases e : j = x
    · subst e
      rw [fset_same]
      exact ⟨hxN, hxu⟩
    · rw [fset_ne e]
      exact hN j hj
  have hu1 : ∀ j, (fset ρ x { ρ x with par := par } j).u = (ρ j).u := fun j => by
    by_cases e : j = x
    · subst e
      rw [fset_same]
    · rw [fset_ne e]
  have hr1 : rowOf (fset ρ x { ρ x with par := par }) rt par = rowOf ρ rt par := by
    cases par with
    | none => rfl
    | some p => exact congrArg Rec.R (fset_ne (hp p rfl).2.1)
  have hpN : ∀ p, par = some p → p ∈ N := fun p e => (hp p e).1
  have hpo : parv E par = .pointer (par.map fun p => ⟨E.ad p, 0, none⟩) := by cases par <;> rfl
  unfold ncs pv at *
  rw [hpo] at hw1 ⊢
  generalize hpe : (par.map fun p => (⟨E.ad p, 0, none⟩ : Addr)) = po at *
  (refine Ga ?_)
  rw [hw1]
  refine W_cutS (α := Unit) (fun _ => [(0, .pointer (some ⟨E.p, 0, none⟩)), (1, .pointer (some ⟨E.ad x, 0, none⟩)), (7, .pointer (some ⟨hB E par, hO par, none⟩)), (8, .int .i64 (place0 ord D par))]) (fun _ A => Core A E ord rt N D (fset ρ x { ρ x with par := par }) ∧ Kept E SA w A) ?_ ?_
  · cases par with
    | none =>
      subst hpe
      (refine Ga ?_)
      exact cutQ_n () ⟨h1, hK1⟩ ⟨rfl, rfl, rfl, rfl, trivial⟩
    | some p =>
      subst hpe
      obtain ⟨hpN, hpx, hpu⟩ := hp p rfl
      have hnp := h1.nodes p hpN
      rw [fset_ne hpx] at hnp
      obtain ⟨htp, pl, pr, hbp, hpl, hpr⟩ := hnp
      have hV := findV_le (D := D) hlen p
      unfold ncs at hbp
      (refine Ga ?_)
      refine W_draws (fun A => Core A E ord rt N D (fset ρ x { ρ x with par := some p }) ∧ Kept E SF w1 A) rfl (by kernel_rfl) ⟨h1.below (Below.drew (Below.refl _ _)), .of (Below.drew (Below.refl _ _))⟩ ?_
      (refine Qb ?_)
      apply Qst_loadA
      focus rfl
      focus rfl
      focus rfl
      focus rfl
      focus rfl
      focus exact fun A9 hA9 => hA9.2.blk hbp (by rw [htp]; simp)
      focus (repeat constructor)
      focus rfl
      (refine Qb ?_)
      apply Qst_call (.int .i64 (findV ord D p))
      focus rfl
      focus rfl
      focus exact fun A9 hA9 => (c_Find (ρ p).u.id hD hN1 hnd hlen hA9.1).mono fun v w' hv => ⟨by rw [hv.1, hpu], hv.2.1, hA9.2.trans hv.2.2⟩
      (refine Qb ?_)
      rintro w8 ⟨h8, hk8⟩
      (refine Ga ?_)
      exact cutQ_n () ⟨h8, hK1.trans (hk8.mono fun t ht => by rcases ht with rfl | rfl <;> simp)⟩ ⟨rfl, rfl, rfl, rfl, trivial⟩
  · rintro J _ A ⟨hA0, hK0⟩
    clear hw1 h1 hK1 hbx hxl hxr h
    have hP0 : 0 ≤ place0 ord D par + 0 ∧ place0 ord D par ≤ 1000000001 := by
      cases par with
      | none => exact ⟨by show (0 : Int) ≤ 0 + 0; omega, by show (0 : Int) ≤ _; omega⟩
      | some p => have := findV_le (D := D) hlen p; exact ⟨by show (0 : Int) ≤ findV ord D p + 1 + 0; omega, by show findV ord D p + 1 ≤ _; omega⟩
    have hsb := sumN_le hn (by omega)
    have hLu : ∀ j ∈ rowOf ρ rt par, fset ρ x { ρ x with par := par } j = ρ j := fun j hj => fset_ne (hL j hj).2
    (refine Ga ?_)
    refine W_cutB (α := Unit) (fun _ => [(0, .pointer (some ⟨E.p, 0, none⟩)), (1, .pointer (some ⟨E.ad x, 0, none⟩)), (7, .pointer (some ⟨hB E par, hO par, none⟩)), (8, .int .i64 (place0 ord D par + (sumN ρ ((rowOf ρ rt par).take k) : Int))), (9, .int .i64 (k : Int))]) (fun _ A => Core A E ord rt N D (fset ρ x { ρ x with par := par }) ∧ Kept E SA w A) ?_ ?_
    · refine W_loop (α := Nat) (fun i => [(0, .pointer (some ⟨E.p, 0, none⟩)), (1, .pointer (some ⟨E.ad x, 0, none⟩)), (7, .pointer (some ⟨hB E par, hO par, none⟩)), (8, .int .i64 (place0 ord D par + (sumN ρ ((rowOf ρ rt par).take i) : Int))), (9, .int .i64 (i : Int))])
        (fun i A => i ≤ k ∧ Core A E ord rt N D (fset ρ x { ρ x with par := par }) ∧ Kept E SA w A) (fun i _ => k - i) 0 ⟨Nat.zero_le _, hA0, hK0⟩ ⟨rfl, rfl, rfl, ?_, rfl, trivial⟩ ?_
      · rw [List.take_zero]
        exact congrArg (Value.int .i64) (by show place0 ord D par = _ + ((0 : Nat) : Int); omega)
      clear hA0 hK0
      rintro J i A ⟨hik, hA, hKA⟩
      obtain ⟨sl, hcs, hrow⟩ := hA.hold par hpN
      rw [hr1] at hrow
      obtain ⟨a, c, rfl, hac, hat⟩ := hrow.at
      by_cases hil : i < (rowOf ρ rt par).length
      · obtain ⟨g, rfl, hci⟩ := hat i hil
        obtain ⟨hjN, hjx⟩ := hL _ (List.getElem_mem hil)
        have hju := hLu _ (List.getElem_mem hil)
        have hk1i := hk1 i hil
        have hk2i := hk2 i hil
        have hnj := hn _ (List.getElem_mem hil)
        have hst := sumN_take (ρ := ρ) hil
        have hsl := sumN_tle (ρ := ρ) (l := rowOf ρ rt par) i
        have hsl1 := sumN_tle (ρ := ρ) (l := rowOf ρ rt par) (i + 1)
        unfold pv at hci
        (refine Ga ?_)
        (apply Lst_call; (focus rfl); (focus rfl))
        refine (c_ahead (rowOf ρ rt par)[i] x hjN hxN hD hN1 hnd hlen hA).mono ?_
        rintro v w5 ⟨rfl, h5, hk5⟩
        have hK5 := hKA.trans (hk5.mono (T := SA) fun t ht => by rcases ht with rfl | rfl <;> simp)
        rw [hu1, hu1]
        clear hcs hrow hci hat
        generalize hje : (rowOf ρ rt par)[i] = j at *
        by_cases hik' : i = k
        · subst hik'
          rw [hk2i rfl]
          (refine Ga ?_)
          exact cutQ_n () ⟨h5, hK5⟩ ⟨rfl, rfl, rfl, rfl, rfl, trivial⟩
        · rw [hk1i (by omega)]
          obtain ⟨sl, hcs, hrow⟩ := h5.hold par hpN
          rw [hr1] at hrow
          obtain ⟨a, c, rfl, hac, hat⟩ := hrow.at
          obtain ⟨g, rfl, hci⟩ := hat i hil
          rw [hje] at hci
          obtain ⟨_, jl, jr, hbj, _, _⟩ := h5.nodes j hjN
          rw [hju] at hbj
          unfold pv at hci
          unfold ncs at hbj
          (refine Ga ?_)
          refine rndQ_n (α := Nat) (i + 1) ⟨by omega, h5, hK5⟩ ⟨rfl, rfl, rfl, ?_, rfl, trivial⟩ (by omega)
          exact congrArg (Value.int .i64) (by omega)
      · obtain rfl : i = k := by omega
        have hie : i = (rowOf ρ rt par).length := by omega
        (refine Ga ?_)
        exact cutQ_n () ⟨hA, hKA⟩ ⟨rfl, rfl, rfl, rfl, rfl, trivial⟩
    · rintro J _ A ⟨hA, hKA⟩
      clear hA0 hK0
      obtain ⟨sl, hcs, hrow⟩ := hA.hold par hpN
      rw [hr1] at hrow
      have hrowO := hrow
      obtain ⟨a, c, rfl, hac, hat⟩ := hrow.at
      clear hat
      (refine Ga ?_)
      (apply Lst_slit; (focus rfl); (focus rfl); (focus rfl); (focus rfl); (focus rfl); (focus rfl); (focus rfl); (focus rfl); (focus rfl); (focus (repeat (first | apply FillO.nil | (apply FillO.cons; (focus constructor); (focus rfl); (focus rfl); (focus (repeat constructor)))))); (focus ((try simp only [Sx.sizes]); first | done | rfl)); (focus rfl))
      (refine Ga ?_)
      have hbX : Below A.heap.size A (A.alloc (.cells [.pointer (some ⟨E.ad x, 0, none⟩)].toArray 73)) := Bel
      have kX : Blk (A.alloc (.cells [.pointer (some ⟨E.ad x, 0, none⟩)].toArray 73)) A.heap.size [.pointer (some ⟨E.ad x, 0, none⟩)] 73 := (by (repeat (first | assumption | (apply Blk.below (hb := hb1); rotate_left; (focus ((try simp only [Sx.sizes]); omega)); rotate_right) | (apply Blk.below (hb := hb2); rotate_left; (focus ((try simp only [Sx.sizes]); omega)); rotate_right) | (apply Blk.below (hb := hb3); rotate_left; (focus ((try simp only [Sx.sizes]); omega)); rotate_right) | (apply Blk.below (hb := hb4); rotate_left; (focus ((try simp only [Sx.sizes]); omega)); rotate_right) | (apply Blk.below (hb := hb5); rotate_left; (focus ((try simp only [Sx.sizes]); omega)); rotate_right) | (apply Blk.below (hb := hb6); rotate_left; (focus ((try simp only [Sx.sizes]); omega)); rotate_right) | (apply Blk.below (hb := hb7); rotate_left; (focus ((try simp only [Sx.sizes]); omega)); rotate_right) | (apply Blk.below (hb := hb8); rotate_left; (focus ((try simp only [Sx.sizes]); omega)); rotate_right) | (apply Blk.below (hb := hb9); rotate_left; (focus ((try simp only [Sx.sizes]); omega)); rotate_right) | exact Blk.newE (by first | rfl | ((try simp only [Sx.sizes]); first | done | omega)) _ _ | exact Blk.put_same (by (try simp only [Sx.sizes]); first | done | omega) _ _ | (apply Blk.put_ne; (focus omega)) | apply Blk.alloc | apply Blk.drew)); done)
      have hrX : RowAt (A.alloc (.cells [.pointer (some ⟨E.ad x, 0, none⟩)].toArray 73)) E (hT par) (.slice a (rowOf ρ rt par).length c) (rowOf ρ rt par) := (Kept.of (E := E) (S := fun _ => False) hbX).row hrowO (fun h => h)
      have hvne : ∀ g, (Value.slice a (rowOf ρ rt par).length c).ownBlock = some g → g < A.heap.size := fun g hg => own_ltg hrowO.own hg
      (apply Lst_call; (focus rfl); (focus rfl))
      refine (c_Ins 0 (rowOf ρ rt par).length k 1 _ _ ((rowOf ρ rt par).map (pv E)) [pv E x] [pv E x] A.heap.size 0 1 73 hkl (by decide) (by omega) (A.alloc (.cells [.pointer (some ⟨E.ad x, 0, none⟩)].toArray 73)) hrX.own (Nat.zero_le _) rfl rfl kX (fun j u hu => by rwa [Nat.zero_add]) (fun u hu => by obtain ⟨q, _, rfl⟩ := List.mem_map.1 hu; rfl) (fun u hu => by rw [List.mem_singleton.1 hu]; rfl) (fun hg => by have := hvne _ hg; omega)).mono ?_
      rintro v w4 ⟨ho, hg, hb⟩
      obtain ⟨E', hE, hrow4, hkp⟩ := row_ins hrX ho hkl hg hb
      have hX := hA.below hbX
      have hKX := hKA.trans (.of hbX)
      clear hrX ho hg hb hvne kX hKA hA hcs hrow hrowO
      obtain ⟨v1, v2, v3, rfl⟩ := own_slice hrow4.own
      generalize A.alloc (.cells [.pointer (some ⟨E.ad x, 0, none⟩)].toArray 73) = X at *
      have hC4 := hX.ext hE (Nat.le_refl _)
      cases par with
      | none =>
        obtain ⟨so, sr, fresh, m, hS, hOo, hR, hM, hF⟩ := hC4.seq
        have hS4 := hkp.blk hS (by rw [hC4.tp]; simp [hT])
        have ht4 := hC4.tp
        rw [hE.p] at hS4 ht4
        have hl4 := hS4.lt
        simp only [hB, hO]
        (refine Ga ?_)
        (apply retQ1; (focus rfl))
        have hkq : Kept E' (fun t => t = .seq ∨ t = .root) X (w4.putObj E.p (.cells [.map (some E'.ma), so, .slice v1 v2 v3, .map (some E'.mt), .bool fresh].toArray 71)) :=
          (hkp.mono fun t ht => .inr ht).trans (.put _ (.inl ht4) _)
        refine ⟨rfl, E', ⟨hE.p, hE.ma, hE.mt, hE.ad, fun g hg => hE.old g (Nat.lt_of_lt_of_le hg hKX.size), fun g hg => hE.far g (by rw [World.putObj_size] at hg; exact hg)⟩, hKX.trans (hkq.back hE fun t ht => by rcases ht with rfl | rfl <;> simp), ?_⟩
        refine hC4.updSeq hkq (fun t ht => ht.elim (fun h => .inr (.inl h)) (fun h => .inr (.inr (.inr (.inl h))))) ⟨so, .slice v1 v2 v3, fresh, m, by rw [hE.p]; exact Blk.put_same hl4 _ _, ?_, ?_, ?_, hF⟩
        · exact hkq.row hOo (by simp)
        · exact (Kept.put (S := fun t => t = .seq) _ ht4 _).row hrow4 (by simp)
        · exact hkq.map hM (by rw [hC4.tmt]; simp)
      | some p =>
        obtain ⟨hpN', hpx, hpu⟩ := hp p rfl
        have hnp := hC4.nodes p hpN'
        rw [fset_ne hpx] at hnp
        obtain ⟨htp, pl, pr, hbp, hpl, hpr⟩ := hnp
        have hbp4 := hkp.blk hbp (by rw [htp]; simp [hT])
        rw [hE.ad] at hbp4 htp
        rw [hE.ncs] at hbp4
        have hl4 := hbp4.lt
        unfold ncs at hbp4
        simp only [hB, hO]
        (refine Ga ?_)
        (apply retQ1; (focus rfl))
        have hkq : Kept E' (fun t => t = .node p ∨ t = .right p) X (w4.putObj (E.ad p) (.cells (ncs E { ρ p with R := (ρ p).R.take k ++ x :: (ρ p).R.drop k } pl (.slice v1 v2 v3)).toArray 78)) :=
          (hkp.mono fun t ht => .inr ht).trans (.put _ (.inl htp) _)
        refine ⟨rfl, E', ⟨hE.p, hE.ma, hE.mt, hE.ad, fun g hg => hE.old g (Nat.lt_of_lt_of_le hg hKX.size), fun g hg => hE.far g (by rw [World.putObj_size] at hg; exact hg)⟩, hKX.trans (hkq.back hE fun t ht => by rcases ht with rfl | rfl <;> simp), ?_⟩
        have e : ∀ l, recR (fset ρ x { ρ x with par := some p }) (some p) l = fset (fset ρ x { ρ x with par := some p }) p { ρ p with R := l } := fun l => by
          show fset _ p { fset ρ x { ρ x with par := some p } p with R := l } = _
          rw [fset_ne hpx]
        rw [e]
        refine hC4.updNode hkq (fun t ht => ht.elim (fun h => .inr (.inl h)) (fun h => .inr (.inr (.inr h)))) ⟨by rw [hE.ad]; exact htp, pl, .slice v1 v2 v3, by rw [hE.ad, hE.ncs]; exact Blk.put_same hl4 _ _, ?_, ?_⟩
        · exact hkq.row hpl (by simp)
        · exact (Kept.put (S := fun t => t = .node p) _ htp _).row hrow4 (by simp)
end Sq
end Go.Proofs.Ytmammcgdjjldbaa
