/- Left children. -/
import Derived.Test.YtmammcgdjjldbaaSqJ
namespace Go.Proofs.Ytmammcgdjjldbaa
set_option maxRecDepth 100000
namespace Sq
open Go Go.RowKit Sx Tl
variable {E : Env} {ord rt N D : List Id} {ρ : Id → Rec} {w : World}
/-- Not of anyone else's. -/
abbrev SA (t : Tag) : Prop := t ≠ .other
/-- The sizes of these units. -/
def sumN (ρ : Id → Rec) (l : List Id) : Nat := (l.map fun j => (ρ j).n).sum
theorem Kept.nodeBlk {k : Id} (h : Core w E ord rt N D ρ) (hk : k ∈ N) (o : Obj) : Kept E (fun t => t = .node k) w (w.putObj (E.ad k) o) := .put _ (h.nodes k hk).tag o
/-- Another tag for a new block. -/
def Env.tag (E : Env) (b : Nat) (τ : Tag) : Env := { E with tg := fun g => if g = b then τ else E.tg g }
theorem Ex.tag {A : World} {b : Nat} (τ : Tag) (h1 : w.heap.size ≤ b) (h2 : b < A.heap.size) : Ex E w (E.tag b τ) A :=
  ⟨rfl, rfl, rfl, rfl, fun g hg => if_neg (by omega), fun g hg => if_neg (by omega)⟩
/-- What slices.Insert tells, in tags. -/
theorem row_ins {τ : Tag} {v u : Value} {l : List Id} {k : Nat} {x : Id} {A : World} (hr : RowAt w E τ v l)
    (ho : A.ownsRow 0 73 1 u (l.length + 1) ((l.map (pv E)).take k ++ [pv E x] ++ (l.map (pv E)).drop k)) (hk : k ≤ l.length) (hg : w.grownBy A v.ownBlock) (hb : u.ownBlock = v.ownBlock ∨ u.ownBlock = some w.heap.size) :
    ∃ E', Ex E w E' A ∧ RowAt A E' τ u (l.take k ++ x :: l.drop k) ∧ Kept E' (fun t => t = τ) w A := by
  have e1 : (l.map (pv E)).take k ++ [pv E x] ++ (l.map (pv E)).drop k = (l.take k ++ x :: l.drop k).map (pv E) := by simp
  have e2 : l.length + 1 = (l.take k ++ x :: l.drop k).length := by simp only [List.length_append, List.length_take, List.length_cons, List.length_drop]; omega
  rw [e1, e2] at ho
  rcases hb with hb | hb
  · refine ⟨E, .refl _ _ _, ⟨ho, fun g hg' => hr.tag g (hb ▸ hg')⟩, .grown hg fun g hg' => hr.tag g hg'⟩
  · have hlt := own_ltg ho hb
    refine ⟨E.tag w.heap.size τ, .tag τ (Nat.le_refl _) hlt, ⟨ho, fun g hg' => ?_⟩, .grown hg fun g hg' => ?_⟩
    · rw [hb] at hg'
      cases hg'
      exact if_pos rfl
    · have := own_ltg hr.own hg'
      show (if g = w.heap.size then τ else E.tg g) = τ
      rw [if_neg (by omega)]
      exact hr.tag g hg'
theorem sumN_le {l : List Id} (hn : ∀ j ∈ l, (ρ j).n ≤ 1000000000) (hl : l.length ≤ 1000000000) : sumN ρ l ≤ 1000000000000000000 := by
  have : ∀ l : List Id, (∀ j ∈ l, (ρ j).n ≤ 1000000000) → sumN ρ l ≤ l.length * 1000000000 := fun l => by
    induction l with
    | nil => intro _; exact Nat.zero_le _
    | cons a l ih =>
      intro h
      have h1 := ih fun j hj => h j (List.mem_cons_of_mem _ hj)
      have h2 := h a (List.mem_cons_self ..)
      show (ρ a).n + sumN ρ l ≤ (l.length + 1) * 1000000000
      omega
  have := this l hn
  omega
theorem sumN_drop {l : List Id} {k : Nat} (hk : k < l.length) : sumN ρ (l.drop k) = (ρ l[k]).n + sumN ρ (l.drop (k + 1)) := by
  rw [List.drop_eq_getElem_cons hk]
  rfl
theorem sumN_dle {l : List Id} (k : Nat) : sumN ρ (l.drop k) ≤ sumN ρ l := by
  conv => rhs; rw [← List.take_append_drop k l]
  unfold sumN
  rw [List.map_append, List.sum_append]
  omega
theorem sumN_take {l : List Id} {k : Nat} (hk : k < l.length) : sumN ρ (l.take (k + 1)) = sumN ρ (l.take k) + (ρ l[k]).n := by
  unfold sumN
  rw [List.take_succ_eq_append_getElem hk, List.map_append, List.sum_append]
  simp
theorem sumN_tle {l : List Id} (k : Nat) : sumN ρ (l.take k) ≤ sumN ρ l := by
  conv => rhs; rw [← List.take_append_drop k l]
  unfold sumN
  rw [List.map_append, List.sum_append]
  omega
theorem findV_le (hlen : ord.length ≤ 1000000000) (k : Id) : -1 ≤ findV ord D k ∧ findV ord D k ≤ 1000000000 := by
  unfold findV
  have : ord.idxOf k ≤ ord.length := List.idxOf_le_length
  split <;> omega
theorem cell_lt {b o : Nat} {v : Value} (h : w.cell? ⟨b, o, none⟩ = some v) : b < w.heap.size := by
  unfold World.cell? at h
  cases e : w.heap[b]? with
  | none => simp [e] at h
  | some ob => exact lt_of_some e
theorem cell_below {w w' : World} {b o : Nat} {v : Value} (hb : Below w.heap.size w w') (h : w.cell? ⟨b, o, none⟩ = some v) : w'.cell? ⟨b, o, none⟩ = some v := by
  rw [World.cell?_of_block (hb.block b (cell_lt h))]
  exact h
theorem Kept.back {E' : Env} {S T : Tag → Prop} {A A' : World} (h : Kept E' S w A) (hE : Ex E w E' A') (hs : ∀ t, S t → T t) : Kept E T w A :=
  ⟨h.os, h.tape, h.output, h.size, fun g h1 h2 => h.block g h1 fun h3 => h2 (by have := hs _ h3; rwa [hE.old g h1] at this)⟩
attribute [local irreducible] W Lst Qst Pu seqQ blkQ rndQ cutQ retQ Does Enters IntKind.wrap bits sb World.alloc World.putObj Blk
set_option maxHeartbeats 2000000 in
theorem c_leftOf (x p : Id) (k : Nat) (hxN : x ∈ N) (hpN : p ∈ N) (hxp : x ≠ p) (hxu : (ρ x).u.id = x) (hpu : (ρ p).u.id = p) (hL : ∀ j ∈ (ρ p).L, j ∈ N ∧ (ρ j).u.id = j ∧ j ≠ x ∧ j ≠ p) (hLl : (ρ p).L.length ≤ 1000000000 - 1) (hn : ∀ j ∈ (ρ p).L, (ρ j).n ≤ 1000000000)
    (hkl : k ≤ (ρ p).L.length) (hk1 : ∀ i (hi : i < (ρ p).L.length), k ≤ i → Fo.lt x (ρ p).L[i] = true) (hk2 : ∀ i (hi : i < (ρ p).L.length), i + 1 = k → Fo.lt x (ρ p).L[i] = false)
    (hD : ∀ j, j ∈ ord ↔ j ∈ D) (hN : ∀ j ∈ ord, j ∈ N ∧ (ρ j).u.id = j) (hnd : ord.Nodup) (hlen : ord.length ≤ 1000000000) (h : Core w E ord rt N D ρ) :
    Does Try.prog 48 #[.pointer (some ⟨E.p, 0, none⟩), pv E x, pv E p] w fun v w' => v = .int .i64 (findV ord D p - (sumN ρ ((ρ p).L.drop k) : Int)) ∧
      ∃ E', Ex E w E' w' ∧ Kept E SA w w' ∧ Core w' E' ord rt N D (fset (fset ρ x { ρ x with par := some p }) p { ρ p with L := (ρ p).L.take k ++ x :: (ρ p).L.drop k }) := by
  refine Does_of (args := [.pointer (some ⟨E.p, 0, none⟩), pv E x, pv E p]) Try.func48 (by kernel_rfl) rfl rfl rfl rfl rfl ?_
  obtain ⟨htx, xl, xr, hbx, hxl, hxr⟩ := h.nodes x hxN
  have hlx := hbx.lt
  have hKx := Kept.put (S := fun t => t = .node x) (w := w) (E.ad x) htx (.cells (ncs E { ρ x with par := some p } xl xr).toArray 78)
  have hnx : NodeAt (w.putObj (E.ad x) (.cells (ncs E { ρ x with par := some p } xl xr).toArray 78)) E x { ρ x with par := some p } :=
    ⟨htx, xl, xr, Blk.put_same hlx _ _, hKx.row hxl (by simp), hKx.row hxr (by simp)⟩
  have h1 := h.updNode hKx (fun t ht => .inr (.inl ht)) hnx
  have hK1 : Kept E SA w _ := hKx.mono (T := SA) fun t ht => by rw [ht]; simp
  clear hKx hnx
  obtain ⟨w1, hw1⟩ : ∃ w1, w.putObj (E.ad x) (.cells (ncs E { ρ x with par := some p } xl xr).toArray 78) = w1 := ⟨_, rfl⟩
  rw [hw1] at h1 hK1
  have hN1 : ∀ j ∈ ord, j ∈ N ∧ (fset ρ x { ρ x with par := some p } j).u.id = j := fun j hj => by
    by_cases e : j = x
    · subst e
      rw [fset_same]
      exact ⟨hxN, hxu⟩
    · rw [fset_ne e]
      exact hN j hj
  have hnp := h1.nodes p hpN
  rw [fset_ne (Ne.symm hxp)] at hnp
  obtain ⟨htp, pl, pr, hbp, hpl, hpr⟩ := hnp
  unfold ncs parv pv at *
  (refine Ga ?_)
  rw [hw1]
  (refine Ga ?_)
  (apply Lst_call; (focus rfl); (focus rfl))
  refine (c_Find (ρ p).u.id hD hN1 hnd hlen h1).mono ?_
  rintro v w2 ⟨rfl, h2, hk2⟩
  rw [hpu]
  have hK2 := hK1.trans (hk2.mono (T := SA) fun t ht => by rcases ht with rfl | rfl <;> simp)
  clear h1 hK1 hpl hpr hbp hw1 hk2 hbx hxl hxr
  have hnp := h2.nodes p hpN
  rw [fset_ne (Ne.symm hxp)] at hnp
  obtain ⟨_, pl, pr, hbp, hpl, hpr⟩ := hnp
  have hnx := h2.nodes x hxN
  rw [fset_same] at hnx
  obtain ⟨_, xl, xr, hbx, hxl, hxr⟩ := hnx
  have hplO := hpl
  obtain ⟨a, c, rfl, hac, hat⟩ := hpl.at
  have hnodes : ∀ j ∈ (ρ p).L, ∃ sl sr, Blk w2 (E.ad j) (ncs E (ρ j) sl sr) 78 := fun j hj => by
    obtain ⟨h1, h2', h3, h4⟩ := hL j hj
    have := h2.nodes j h1
    rw [fset_ne h3] at this
    obtain ⟨_, sl, sr, hb, _, _⟩ := this
    exact ⟨sl, sr, hb⟩
  have hV := findV_le (D := D) hlen p
  have hsb := sumN_le hn (by omega)
  unfold ncs parv pv at *
  (refine Ga ?_)
  refine W_cutB (α := Unit) (fun _ => [(0, .pointer (some ⟨E.p, 0, none⟩)), (1, .pointer (some ⟨E.ad x, 0, none⟩)), (2, .pointer (some ⟨E.ad p, 0, none⟩)), (7, .int .i64 (findV ord D p - (sumN ρ ((ρ p).L.drop k) : Int))), (8, .int .i64 (k : Int))]) (fun _ A => Grown w2 A) ?_ ?_
  · refine W_loop (α := Nat) (fun i => [(0, .pointer (some ⟨E.p, 0, none⟩)), (1, .pointer (some ⟨E.ad x, 0, none⟩)), (2, .pointer (some ⟨E.ad p, 0, none⟩)), (7, .int .i64 (findV ord D p - (sumN ρ ((ρ p).L.drop i) : Int))), (8, .int .i64 (i : Int))]) (fun i A => k ≤ i ∧ i ≤ (ρ p).L.length ∧ Grown w2 A) (fun i _ => i) (ρ p).L.length ⟨hkl, Nat.le_refl _, Below.refl _ _⟩ ⟨rfl, rfl, rfl, ?_, rfl, trivial⟩ ?_
    · rw [List.drop_length]
      exact congrArg (Value.int .i64) (by show findV ord D p = _ - ((0 : Nat) : Int); omega)
    rintro J i A ⟨hki, hil, hbA⟩
    have hbpA := hbp.below hbA hbp.lt
    have hbxA := hbx.below hbA hbx.lt
    have hltp := hbpA.lt
    have hltx := hbxA.lt
    by_cases hi0 : i = 0
    · subst hi0
      obtain rfl : k = 0 := by omega
      (refine Ga ?_)
      refine W_draws (Grown _) rfl (by kernel_rfl) (grown_start _) ?_
      (refine Qb ?_)
      intro w8 hb8
      (refine Ga ?_)
      exact cutQ_n () (hbA.trans (hb8.mono hbA.size)) ⟨rfl, rfl, rfl, rfl, rfl, trivial⟩
    · obtain ⟨i, rfl⟩ : ∃ q, i = q + 1 := ⟨i - 1, by omega⟩
      have hiL : i < (ρ p).L.length := by omega
      obtain ⟨g, rfl, hci⟩ := hat i hiL
      obtain ⟨q1, hq2, _⟩ := hL _ (List.getElem_mem hiL)
      obtain ⟨jl, jr, hbj⟩ := hnodes _ (List.getElem_mem hiL)
      have hcA : ∀ A', Grown w2 A' → A'.cell? ⟨g, 0 + i, none⟩ = some (.pointer (some ⟨E.ad (ρ p).L[i], 0, none⟩)) := fun A' hA' => cell_below hA' hci
      have hnj := hn _ (List.getElem_mem hiL)
      have hsl1 := sumN_dle (ρ := ρ) (l := (ρ p).L) (i + 1)
      have hsd := sumN_drop (ρ := ρ) hiL
      have hsl := sumN_dle (ρ := ρ) (l := (ρ p).L) i
      have hk1i := hk1 i hiL
      have hk2i := hk2 i hiL
      generalize (ρ p).L[i] = j at *
      have hbjA := hbj.below hbA hbj.lt
      have hltj := hbjA.lt
      have hi1 : (((i + 1 : Nat) : Int) - 1) = (i : Int) := by omega
      (refine Ga ?_)
      refine W_draws (Grown _) rfl (by kernel_rfl) (grown_start _) ?_
      (refine Qb ?_)
      apply Qst_pu
      · apply P_idx1 (j := i)
        focus rfl
        focus exact congrArg (Value.int .i64) hi1
        focus rfl
        focus rfl
        focus rfl
        focus omega
      focus rfl
      (refine Qb ?_)
      apply Qst_loadc
      focus rfl
      focus rfl
      focus rfl
      focus exact fun A9 hA9 => hcA A9 (hbA.trans (hA9.mono hbA.size))
      focus rfl
      (refine Qb ?_)
      apply Qst_call (.bool (Fo.lt (ρ x).u.id (ρ j).u.id))
      focus rfl
      focus rfl
      · intro A9 hb9
        exact (n_Less (ρ x).u.id (ρ j).u.id A9).mono fun v w' h => ⟨h.1, Sx.Below.after hb9 h.2⟩
      rw [hxu, hq2]
      by_cases hki' : k ≤ i
      · rw [hk1i hki']
        (refine Qb ?_)
        intro w8 hb8
        have hbB := hbA.trans (hb8.mono hbA.size)
        have hbpB := hbp.below hbB hbp.lt
        have hbjB := hbj.below hbB hbj.lt
        have hcB := hcA w8 hbB
        unfold ncs at hbjB
        (refine Ga ?_)
        apply Lst_pu
        · apply P_idx1 (j := i)
          focus rfl
          focus exact congrArg (Value.int .i64) hi1
          focus rfl
          focus rfl
          focus rfl
          focus omega
        focus rfl
        (refine Ga ?_)
        refine rndQ_n (α := Nat) i ⟨hki', by omega, hbB⟩ ⟨rfl, rfl, rfl, ?_, congrArg (Value.int .i64) hi1, trivial⟩ (by omega)
        exact congrArg (Value.int .i64) (by omega)
      · obtain rfl : k = i + 1 := by omega
        rw [hk2i rfl]
        (refine Qb ?_)
        intro w8 hb8
        (refine Ga ?_)
        exact cutQ_n () (hbA.trans (hb8.mono hbA.size)) ⟨rfl, rfl, rfl, rfl, rfl, trivial⟩
  · intro J _ A hbA
    have hA := h2.below hbA
    have hKA := hK2.trans (.of hbA)
    have hbpA := hbp.below hbA hbp.lt
    have hltp := hbpA.lt
    clear h2 hK2 hbp hbx hnodes hxl hxr
    (refine Ga ?_)
    (apply Lst_slit; (focus rfl); (focus rfl); (focus rfl); (focus rfl); (focus rfl); (focus rfl); (focus rfl); (focus rfl); (focus rfl); (focus (repeat (first | apply FillO.nil | (apply FillO.cons; (focus constructor); (focus rfl); (focus rfl); (focus (repeat constructor)))))); (focus ((try simp only [Sx.sizes]); first | done | rfl)); (focus rfl))
    (refine Ga ?_)
    have hbX : Below A.heap.size A (A.alloc (.cells [.pointer (some ⟨E.ad x, 0, none⟩)].toArray 73)) := Bel
    have kX : Blk (A.alloc (.cells [.pointer (some ⟨E.ad x, 0, none⟩)].toArray 73)) A.heap.size [.pointer (some ⟨E.ad x, 0, none⟩)] 73 := (by (repeat (first | assumption | (apply Blk.below (hb := hb1); rotate_left; (focus ((try simp only [Sx.sizes]); omega)); rotate_right) | (apply Blk.below (hb := hb2); rotate_left; (focus ((try simp only [Sx.sizes]); omega)); rotate_right) | (apply Blk.below (hb := hb3); rotate_left; (focus ((try simp only [Sx.sizes]); omega)); rotate_right) | (apply Blk.below (hb := hb4); rotate_left; (focus ((try simp only [Sx.sizes]); omega)); rotate_right) | (apply Blk.below (hb := hb5); rotate_left; (focus ((try simp only [Sx.sizes]); omega)); rotate_right) | (apply Blk.below (hb := hb6); rotate_left; (focus ((try simp only [Sx.sizes]); omega)); rotate_right) | (apply Blk.below (hb := hb7); rotate_left; (focus ((try simp only [Sx.sizes]); omega)); rotate_right) | (apply Blk.below (hb := hb8); rotate_left; (focus ((try simp only [Sx.sizes]); omega)); rotate_right) | (apply Blk.below (hb := hb9); rotate_left; (focus ((try simp only [Sx.sizes]); omega)); rotate_right) | exact Blk.newE (by first | rfl | ((try simp only [Sx.sizes]); first | done | omega)) _ _ | exact Blk.put_same (by (try simp only [Sx.sizes]); first | done | omega) _ _ | (apply Blk.put_ne; (focus omega)) | apply Blk.alloc | apply Blk.drew)); done)
    have hrX : RowAt (A.alloc (.cells [.pointer (some ⟨E.ad x, 0, none⟩)].toArray 73)) E (.left p) (.slice a (ρ p).L.length c) (ρ p).L := (Kept.of (E := E) (S := fun _ => False) hbX).row ((Kept.of (E := E) (S := fun _ => False) hbA).row hplO (fun h => h)) (fun h => h)
    have hsX := hbX.size
    have hprX : RowAt (A.alloc (.cells [.pointer (some ⟨E.ad x, 0, none⟩)].toArray 73)) E (.right p) pr (ρ p).R := (Kept.of (E := E) (S := fun _ => False) hbX).row ((Kept.of (E := E) (S := fun _ => False) hbA).row hpr (fun h => h)) (fun h => h)
    have hvne : ∀ g, (Value.slice a (ρ p).L.length c).ownBlock = some g → g < A.heap.size := fun g hg => own_ltg ((Kept.of (E := E) (S := fun _ => False) hbA).row hplO (fun h => h)).own hg
    (apply Lst_call; (focus rfl); (focus rfl))
    refine (c_Ins 0 (ρ p).L.length k 1 _ _ ((ρ p).L.map (pv E)) [pv E x] [pv E x] A.heap.size 0 1 73 hkl (by decide) (by omega) (A.alloc (.cells [.pointer (some ⟨E.ad x, 0, none⟩)].toArray 73)) hrX.own (Nat.zero_le _) rfl rfl kX (fun j u hu => by rwa [Nat.zero_add]) (fun u hu => by obtain ⟨q, _, rfl⟩ := List.mem_map.1 hu; rfl) (fun u hu => by rw [List.mem_singleton.1 hu]; rfl) (fun hg => by have := hvne _ hg; omega)).mono ?_
    rintro v w4 ⟨ho, hg, hb⟩
    obtain ⟨E', hE, hrow, hkp⟩ := row_ins hrX ho hkl hg hb
    have hXc := hA.below hbX
    have hbpX := hbpA.below hbX hltp
    have hKX := hKA.trans (.of hbX)
    clear hrX ho hg hb hvne kX hbpA hKA hplO hA hat
    obtain ⟨v1, v2, v3, rfl⟩ := own_slice hrow.own
    generalize A.alloc (.cells [.pointer (some ⟨E.ad x, 0, none⟩)].toArray 73) = X at *
    have htp' : E'.tg (E.ad p) = .node p := (hE.old _ hbpX.lt).trans htp
    have hbp4 := hkp.blk hbpX (by rw [htp']; simp)
    have hlp4 := hbp4.lt
    have hC4 := hXc.ext hE (Nat.le_refl _)
    (refine Ga ?_)
    (apply retQ1; (focus rfl))
    have hkq : Kept E' (fun t => t = .node p ∨ t = .left p) X (w4.putObj (E.ad p) (.cells (ncs E { ρ p with L := (ρ p).L.take k ++ x :: (ρ p).L.drop k } (.slice v1 v2 v3) pr).toArray 78)) :=
      (hkp.mono fun t ht => .inr ht).trans (.put _ (.inl htp') _)
    refine ⟨rfl, E', ⟨hE.p, hE.ma, hE.mt, hE.ad, fun g hg => hE.old g (Nat.lt_of_lt_of_le hg hKX.size), fun g hg => hE.far g (by rw [World.putObj_size] at hg; exact hg)⟩, hKX.trans (hkq.back hE fun t ht => by rcases ht with rfl | rfl <;> simp), ?_⟩
    refine hC4.updNode hkq (fun t ht => ht.elim (fun h => .inr (.inl h)) (fun h => .inr (.inr (.inl h)))) ⟨by rw [hE.ad]; exact htp', .slice v1 v2 v3, pr, by rw [hE.ad, hE.ncs]; exact Blk.put_same hlp4 _ _, ?_, ?_⟩
    · exact (Kept.put (S := fun t => t = .node p) _ htp' _).row hrow (by simp)
    · exact hkq.row (hE.row hprX (Nat.le_refl _)) (by simp)
end Sq
end Go.Proofs.Ytmammcgdjjldbaa
