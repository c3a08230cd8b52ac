/- Package view: lengths, runs alike, runs as new memory. -/
import Derived.Test.YtglfoofclicfpaaDoorVwA
import Derived.Test.YtglfoofclicfpaaDoorSxF
namespace Go.Proofs.YtglfoofclicfpaaDoor
set_option maxRecDepth 100000
namespace Vw
open Go Go.RowKit Sx Tl Fl Val Mk
open Utf (rs tl Tabs cutS)
def lenP (P : List Rv) : Nat := (us (P.map Prod.fst)).length
theorem lenP_cons (p : Rv) (P : List Rv) : lenP (p :: P) = lenR p.1 + lenP P := by
  unfold lenP
  rw [List.map_cons, show us (p.1 :: P.map Prod.fst) = usR p.1 ++ us (P.map Prod.fst) from rfl, List.length_append, lenR_us]
theorem lenP_append (P K : List Rv) : lenP (P ++ K) = lenP P + lenP K := by unfold lenP; rw [List.map_append, us_append, List.length_append]
theorem lenP_take_succ {P : List Rv} {i : Nat} (h : i < P.length) : lenP (P.take (i + 1)) = lenP (P.take i) + lenR P[i].1 := by
  rw [List.take_succ_eq_append_getElem h, lenP_append]
  congr 1
  rw [lenP_cons]
  rfl
theorem lenP_take_le (P : List Rv) (i : Nat) : lenP (P.take i) ≤ lenP P := by
  conv => rhs; rw [← List.take_append_drop i P, lenP_append]
  omega
section
attribute [local irreducible] RnS RnT
attribute [local irreducible] W Lst Qst Pu seqQ blkQ rndQ cutQ retQ Does Enters IntKind.wrap bits sb World.alloc World.putObj Blk
set_option maxHeartbeats 2000000 in
theorem c_length (p : Rv) (A : Nat) (w : World) (hT : Tabs w) (hm : MkO A w p.2 p.1.ms) (hs : p.1.tx.size ≤ 1000000) : Does Tryd.prog 43 #[.agg (pcs p).toArray] w fun v w' => v = .int .i64 (lenR p.1 : Int) ∧ Below w.heap.size w w' := by
  obtain ⟨r, mv⟩ := p
  obtain ⟨ma, mc, he⟩ := hm.form
  dsimp only at he
  subst he
  dsimp only at hs ⊢
  refine Does_of (args := [.agg (pcs (r, .slice ma r.ms.length mc)).toArray]) Tryd.func43 (by kernel_rfl) rfl rfl rfl rfl rfl ?_
  unfold pcs rcs lenR
  dsimp only
  cases r.em with
  | true =>
    (refine Ga ?_)
    (apply retQ1; (focus rfl))
    exact ⟨rfl, Bel⟩
  | false =>
    (refine Ga ?_)
    (apply Lst_call; (focus rfl); (focus rfl))
    refine (Utf.c_Len r.tx _ (hT.below Bel) (by omega)).mono ?_
    rintro v w' ⟨rfl, hb⟩
    (refine Ga ?_)
    (apply retQ1; (focus rfl))
    exact ⟨rfl, Sx.Below.after (w := w) Bel hb⟩
set_option maxHeartbeats 4000000 in
theorem c_long (P : List Rv) (A : Nat) (a : Option Addr) (c : Nat) (hl : P.length ≤ 1000000) (hz : ∀ p ∈ P, p.1.tx.size ≤ 1000000) (hL : lenP P ≤ 1000000) (w : World) (hT : Tabs w) (h : RunS A w (.slice a P.length c) P) : Does Tryd.prog 27 #[.slice a P.length c] w fun v w' => v = .int .i64 (lenP P : Int) ∧ Below w.heap.size w w' := by
  refine Does_of (args := [.slice a P.length c]) Tryd.func27 (by kernel_rfl) rfl rfl rfl rfl rfl ?_
  (refine Ga ?_)
  refine W_loop (α := Nat) (fun i => [(3, .int .i64 (lenP (P.take i) : Int)), (6, .slice a P.length c), (7, .int .i64 (P.length : Int)), (8, .int .i64 (i : Int))]) (fun i X => i ≤ P.length ∧ Below w.heap.size w X) (fun i _ => P.length - i) 0 ⟨Nat.zero_le _, Bel⟩ ⟨rfl, rfl, rfl, rfl, trivial⟩ ?_
  rintro J i X ⟨hi, bX⟩
  by_cases hil : i < P.length
  · have hX := h.below bX
    obtain ⟨g, off, rfl, _, hc⟩ := hX.at hil
    have hmk := hX.mks _ (List.getElem_mem hil)
    have hsz := hz _ (List.getElem_mem hil)
    have htk := lenP_take_succ hil
    have htl := lenP_take_le P (i + 1)
    obtain ⟨p, hp⟩ : ∃ p, P[i] = p := ⟨_, rfl⟩
    rw [hp] at hc hmk hsz htk
    (refine Ga ?_)
    apply Lst_pu
    · apply P_idxm (j := i) (sz := 7)
      focus rfl
      focus rfl
      focus rfl
      focus rfl
      focus rfl
      focus omega
    focus rfl
    (refine Ga ?_)
    apply Lst_loadS' (cs := pcs p)
    focus rfl
    focus rfl
    focus rfl
    focus rfl
    focus rfl
    focus exact hc
    focus rfl
    obtain ⟨r, mv⟩ := p
    obtain ⟨ma, mc, he⟩ := hmk.form
    dsimp only at he
    subst he
    unfold pcs rcs
    dsimp only at hsz ⊢
    (refine Ga ?_)
    refine Lst_abs (fun B => Below X.heap.size X B ∧ Blk B X.heap.size (pcs (r, .slice ma r.ms.length mc)) 40) ⟨Bel, by unfold pcs rcs; exact (by (repeat (first | assumption | (apply Blk.below (hb := hb1); rotate_left; (focus ((try simp only [Sx.sizes]); omega)); rotate_right) | (apply Blk.below (hb := hb2); rotate_left; (focus ((try simp only [Sx.sizes]); omega)); rotate_right) | (apply Blk.below (hb := hb3); rotate_left; (focus ((try simp only [Sx.sizes]); omega)); rotate_right) | (apply Blk.below (hb := hb4); rotate_left; (focus ((try simp only [Sx.sizes]); omega)); rotate_right) | (apply Blk.below (hb := hb5); rotate_left; (focus ((try simp only [Sx.sizes]); omega)); rotate_right) | (apply Blk.below (hb := hb6); rotate_left; (focus ((try simp only [Sx.sizes]); omega)); rotate_right) | (apply Blk.below (hb := hb7); rotate_left; (focus ((try simp only [Sx.sizes]); omega)); rotate_right) | (apply Blk.below (hb := hb8); rotate_left; (focus ((try simp only [Sx.sizes]); omega)); rotate_right) | (apply Blk.below (hb := hb9); rotate_left; (focus ((try simp only [Sx.sizes]); omega)); rotate_right) | exact Blk.newE (by first | rfl | ((try simp only [Sx.sizes]); first | done | omega)) _ _ | exact Blk.put_same (by (try simp only [Sx.sizes]); first | done | omega) _ _ | (apply Blk.put_ne; (focus omega)) | apply Blk.alloc | apply Blk.drew)); done)⟩ ?_
    rintro B ⟨hB, kB⟩
    have bB := bX.trans (hB.mono bX.size)
    (apply Lst_call; (focus rfl); (focus rfl))
    refine (c_length (r, .slice ma r.ms.length mc) A B (hT.below bB) (hmk.below hB) hsz).mono ?_
    rintro v C ⟨rfl, hC⟩
    dsimp only at htk ⊢
    (refine Ga ?_)
    refine rndQ_n (α := Nat) (i + 1) ⟨hil, bB.trans (hC.mono bB.size)⟩ ⟨?_, rfl, rfl, ?_, trivial⟩ (by omega)
    · exact congrArg (Value.int .i64) (by omega)
    · exact congrArg (Value.int .i64) (by omega)
  · obtain rfl : i = P.length := by omega
    (refine Ga ?_)
    (apply retQ1; (focus rfl))
    exact ⟨show Value.int .i64 (lenP (P.take P.length) : Int) = _ by rw [List.take_length], bX⟩
set_option maxHeartbeats 4000000 in
theorem c_alike (x y : Rv) (A : Nat) (w : World) (hx : MkO A w x.2 x.1.ms) (hy : MkO A w y.2 y.1.ms) (okx : OkR x.1) (oky : OkR y.1) (hz : x.1.ms.length ≤ 1000000) : Does Tryd.prog 30 #[.agg (pcs x).toArray, .agg (pcs y).toArray] w fun v w' => v = .bool (sameR x.1 y.1) ∧ Below w.heap.size w w' := by
  obtain ⟨⟨xt, xe, xv, xm⟩, mx⟩ := x
  obtain ⟨⟨yt, ye, yv, ym⟩, my⟩ := y
  obtain ⟨xa, xc, he⟩ := hx.form
  dsimp only at he
  subst he
  obtain ⟨ya, yc, he⟩ := hy.form
  dsimp only at he
  subst he
  have fx := okx.fit
  have fy := oky.fit
  have mfx := fun q hq => (okx.ms q hq).2
  have mfy := fun q hq => (oky.ms q hq).2
  dsimp only at hx hy hz fx fy mfx mfy ⊢
  refine Does_of (args := [.agg (pcs (⟨xt, xe, xv, xm⟩, .slice xa xm.length xc)).toArray, .agg (pcs (⟨yt, ye, yv, ym⟩, .slice ya ym.length yc)).toArray]) Tryd.func30 (by kernel_rfl) rfl rfl rfl rfl rfl ?_
  unfold pcs rcs sameR
  dsimp only
  (refine Ga ?_)
  refine Lst_abs (fun B => Below w.heap.size w B ∧ Blk B w.heap.size (pcs (⟨xt, xe, xv, xm⟩, .slice xa xm.length xc)) 40 ∧ Blk B (w.heap.size + 1) (pcs (⟨yt, ye, yv, ym⟩, .slice ya ym.length yc)) 40) ⟨Bel, by unfold pcs rcs; exact (by (repeat (first | assumption | (apply Blk.below (hb := hb1); rotate_left; (focus ((try simp only [Sx.sizes]); omega)); rotate_right) | (apply Blk.below (hb := hb2); rotate_left; (focus ((try simp only [Sx.sizes]); omega)); rotate_right) | (apply Blk.below (hb := hb3); rotate_left; (focus ((try simp only [Sx.sizes]); omega)); rotate_right) | (apply Blk.below (hb := hb4); rotate_left; (focus ((try simp only [Sx.sizes]); omega)); rotate_right) | (apply Blk.below (hb := hb5); rotate_left; (focus ((try simp only [Sx.sizes]); omega)); rotate_right) | (apply Blk.below (hb := hb6); rotate_left; (focus ((try simp only [Sx.sizes]); omega)); rotate_right) | (apply Blk.below (hb := hb7); rotate_left; (focus ((try simp only [Sx.sizes]); omega)); rotate_right) | (apply Blk.below (hb := hb8); rotate_left; (focus ((try simp only [Sx.sizes]); omega)); rotate_right) | (apply Blk.below (hb := hb9); rotate_left; (focus ((try simp only [Sx.sizes]); omega)); rotate_right) | exact Blk.newE (by first | rfl | ((try simp only [Sx.sizes]); first | done | omega)) _ _ | exact Blk.put_same (by (try simp only [Sx.sizes]); first | done | omega) _ _ | (apply Blk.put_ne; (focus omega)) | apply Blk.alloc | apply Blk.drew)); done), by unfold pcs rcs; exact (by (repeat (first | assumption | (apply Blk.below (hb := hb1); rotate_left; (focus ((try simp only [Sx.sizes]); omega)); rotate_right) | (apply Blk.below (hb := hb2); rotate_left; (focus ((try simp only [Sx.sizes]); omega)); rotate_right) | (apply Blk.below (hb := hb3); rotate_left; (focus ((try simp only [Sx.sizes]); omega)); rotate_right) | (apply Blk.below (hb := hb4); rotate_left; (focus ((try simp only [Sx.sizes]); omega)); rotate_right) | (apply Blk.below (hb := hb5); rotate_left; (focus ((try simp only [Sx.sizes]); omega)); rotate_right) | (apply Blk.below (hb := hb6); rotate_left; (focus ((try simp only [Sx.sizes]); omega)); rotate_right) | (apply Blk.below (hb := hb7); rotate_left; (focus ((try simp only [Sx.sizes]); omega)); rotate_right) | (apply Blk.below (hb := hb8); rotate_left; (focus ((try simp only [Sx.sizes]); omega)); rotate_right) | (apply Blk.below (hb := hb9); rotate_left; (focus ((try simp only [Sx.sizes]); omega)); rotate_right) | exact Blk.newE (by first | rfl | ((try simp only [Sx.sizes]); first | done | omega)) _ _ | exact Blk.put_same (by (try simp only [Sx.sizes]); first | done | omega) _ _ | (apply Blk.put_ne; (focus omega)) | apply Blk.alloc | apply Blk.drew)); done)⟩ ?_
  rintro B ⟨bB, k0, k1⟩
  have sB := bB.size
  have l0 := k0.lt
  have l1 := k1.lt
  obtain ⟨b1, hb1⟩ : ∃ b, w.heap.size + 1 = b := ⟨_, rfl⟩
  obtain ⟨b0, hb0⟩ : ∃ b, w.heap.size = b := ⟨_, rfl⟩
  rw [hb1] at k1 l1 ⊢
  rw [hb0] at k0 l0 ⊢
  unfold pcs rcs at k0 k1
  dsimp only at k0 k1
  cases xe
  · cases ye
    · skip
      by_cases ht : xt = yt
      · subst ht
        rw [decide_eq_true (show xt = xt from rfl)]
        (refine Ga ?_)
        (apply Lst_call; (focus rfl); (focus rfl))
        refine (Val.c_Same xv yv fx fy B).mono ?_
        rintro v C ⟨rfl, hC⟩
        have bC := bB.trans (hC.mono sB)
        have k0C := k0.below hC l0
        have k1C := k1.below hC l1
        have l0C := k0C.lt
        have l1C := k1C.lt
        clear k0 k1
        by_cases hv : cmpV xv yv = 0
        · rw [decide_eq_true hv]
          (refine Ga ?_)
          (apply Lst_call; (focus rfl); (focus rfl))
          refine (Mk.c_MSame xm ym xa ya xc yc hz mfx mfy C (hx.below bC).read (hy.below bC).read).mono ?_
          rintro v D ⟨rfl, hD⟩
          (refine Ga ?_)
          (apply retQ1; (focus rfl))
          exact ⟨show Value.bool (sameL xm ym) = _ from rfl, by rw [← hb0]; exact bC.trans (hD.mono bC.size)⟩
        · rw [decide_eq_false hv]
          (refine Ga ?_)
          (apply retQ1; (focus rfl))
          exact ⟨show Value.bool false = _ from rfl, by rw [← hb0]; exact bC⟩
      · rw [decide_eq_false ht]
        (refine Ga ?_)
        (apply retQ1; (focus rfl))
        exact ⟨show Value.bool false = _ from rfl, by rw [← hb0]; exact bB⟩
    · skip
      (refine Ga ?_)
      (apply retQ1; (focus rfl))
      exact ⟨show Value.bool false = _ from rfl, by rw [← hb0]; exact bB⟩
  · cases ye
    · skip
      (refine Ga ?_)
      (apply retQ1; (focus rfl))
      exact ⟨show Value.bool false = _ from rfl, by rw [← hb0]; exact bB⟩
    · skip
      by_cases ht : xt = yt
      · subst ht
        rw [decide_eq_true (show xt = xt from rfl)]
        (refine Ga ?_)
        (apply Lst_call; (focus rfl); (focus rfl))
        refine (Val.c_Same xv yv fx fy B).mono ?_
        rintro v C ⟨rfl, hC⟩
        have bC := bB.trans (hC.mono sB)
        have k0C := k0.below hC l0
        have k1C := k1.below hC l1
        have l0C := k0C.lt
        have l1C := k1C.lt
        clear k0 k1
        by_cases hv : cmpV xv yv = 0
        · rw [decide_eq_true hv]
          (refine Ga ?_)
          (apply Lst_call; (focus rfl); (focus rfl))
          refine (Mk.c_MSame xm ym xa ya xc yc hz mfx mfy C (hx.below bC).read (hy.below bC).read).mono ?_
          rintro v D ⟨rfl, hD⟩
          (refine Ga ?_)
          (apply retQ1; (focus rfl))
          exact ⟨show Value.bool (sameL xm ym) = _ from rfl, by rw [← hb0]; exact bC.trans (hD.mono bC.size)⟩
        · rw [decide_eq_false hv]
          (refine Ga ?_)
          (apply retQ1; (focus rfl))
          exact ⟨show Value.bool false = _ from rfl, by rw [← hb0]; exact bC⟩
      · rw [decide_eq_false ht]
        (refine Ga ?_)
        (apply retQ1; (focus rfl))
        exact ⟨show Value.bool false = _ from rfl, by rw [← hb0]; exact bB⟩
theorem take_one {l vs : List Value} {k : Nat} {a : Value} (h : l[k]? = some a) : l.take (k + 1) ++ vs ++ l.drop (k + 1 + vs.length) = l.take k ++ (a :: vs) ++ l.drop (k + (a :: vs).length) := by
  obtain ⟨hk, hg⟩ := List.getElem?_eq_some_iff.1 h
  rw [List.take_succ_eq_append_getElem hk, hg, List.length_cons, show k + 1 + vs.length = k + (vs.length + 1) by omega]
  simp
/-- A value's cells. -/
def vcs (x : Vl) : List Value := [.int .i64 x.k, .int .i64 x.n, .float .f64 x.f, .string x.s]
def zrun : Rn := ⟨⟨#[]⟩, false, zeroV, []⟩
set_option maxHeartbeats 8000000 in
theorem c_own (p : Rv) (A : Nat) (w : World) (hm : MkO A w p.2 p.1.ms) (hz : p.1.ms.length ≤ 1000000) : Does Tryd.prog 32 #[.agg (pcs p).toArray] w fun v w' => (∃ mv, v = .agg (pcs (cl p.1, mv)).toArray ∧ MkO A w' mv (cl p.1).ms) ∧ Below w.heap.size w w' := by
  obtain ⟨⟨tx, em, vl, ms⟩, mv⟩ := p
  obtain ⟨ma, mc, he⟩ := hm.form
  dsimp only at he hm hz ⊢
  subst he
  refine Does_of (args := [.agg (pcs (⟨tx, em, vl, ms⟩, .slice ma ms.length mc)).toArray]) Tryd.func32 (by kernel_rfl) rfl rfl rfl rfl rfl ?_
  unfold pcs rcs
  dsimp only
  (refine Ga ?_)
  refine Lst_abs (fun B => Below w.heap.size w B ∧ Blk B w.heap.size (pcs (⟨tx, em, vl, ms⟩, .slice ma ms.length mc)) 40 ∧ Blk B (w.heap.size + 1) (pcs (zrun, .slice none 0 0)) 40 ∧ B.heap.size = w.heap.size + 2) ⟨Bel, by unfold pcs rcs; exact (by (repeat (first | assumption | (apply Blk.below (hb := hb1); rotate_left; (focus ((try simp only [Sx.sizes]); omega)); rotate_right) | (apply Blk.below (hb := hb2); rotate_left; (focus ((try simp only [Sx.sizes]); omega)); rotate_right) | (apply Blk.below (hb := hb3); rotate_left; (focus ((try simp only [Sx.sizes]); omega)); rotate_right) | (apply Blk.below (hb := hb4); rotate_left; (focus ((try simp only [Sx.sizes]); omega)); rotate_right) | (apply Blk.below (hb := hb5); rotate_left; (focus ((try simp only [Sx.sizes]); omega)); rotate_right) | (apply Blk.below (hb := hb6); rotate_left; (focus ((try simp only [Sx.sizes]); omega)); rotate_right) | (apply Blk.below (hb := hb7); rotate_left; (focus ((try simp only [Sx.sizes]); omega)); rotate_right) | (apply Blk.below (hb := hb8); rotate_left; (focus ((try simp only [Sx.sizes]); omega)); rotate_right) | (apply Blk.below (hb := hb9); rotate_left; (focus ((try simp only [Sx.sizes]); omega)); rotate_right) | exact Blk.newE (by first | rfl | ((try simp only [Sx.sizes]); first | done | omega)) _ _ | exact Blk.put_same (by (try simp only [Sx.sizes]); first | done | omega) _ _ | (apply Blk.put_ne; (focus omega)) | apply Blk.alloc | apply Blk.drew)); done), by unfold pcs rcs zrun zeroV; exact (by (repeat (first | assumption | (apply Blk.below (hb := hb1); rotate_left; (focus ((try simp only [Sx.sizes]); omega)); rotate_right) | (apply Blk.below (hb := hb2); rotate_left; (focus ((try simp only [Sx.sizes]); omega)); rotate_right) | (apply Blk.below (hb := hb3); rotate_left; (focus ((try simp only [Sx.sizes]); omega)); rotate_right) | (apply Blk.below (hb := hb4); rotate_left; (focus ((try simp only [Sx.sizes]); omega)); rotate_right) | (apply Blk.below (hb := hb5); rotate_left; (focus ((try simp only [Sx.sizes]); omega)); rotate_right) | (apply Blk.below (hb := hb6); rotate_left; (focus ((try simp only [Sx.sizes]); omega)); rotate_right) | (apply Blk.below (hb := hb7); rotate_left; (focus ((try simp only [Sx.sizes]); omega)); rotate_right) | (apply Blk.below (hb := hb8); rotate_left; (focus ((try simp only [Sx.sizes]); omega)); rotate_right) | (apply Blk.below (hb := hb9); rotate_left; (focus ((try simp only [Sx.sizes]); omega)); rotate_right) | exact Blk.newE (by first | rfl | ((try simp only [Sx.sizes]); first | done | omega)) _ _ | exact Blk.put_same (by (try simp only [Sx.sizes]); first | done | omega) _ _ | (apply Blk.put_ne; (focus omega)) | apply Blk.alloc | apply Blk.drew)); done), by simp only [Sx.sizes]⟩ ?_
  rintro B ⟨bB, k0, k1, sB⟩
  have hneb : w.heap.size ≠ w.heap.size + 1 := by omega
  obtain ⟨b1, hb1⟩ : ∃ b, w.heap.size + 1 = b := ⟨_, rfl⟩
  obtain ⟨b0, hb0⟩ : ∃ b, w.heap.size = b := ⟨_, rfl⟩
  rw [hb1] at k1 hneb ⊢
  rw [hb0] at k0 hneb ⊢
  apply Lst_copyM (hm := hm.below bB) (hl := hz)
  focus rfl
  focus rfl
  focus rfl
  intro v' C hoC hC
  have k0C := k0.below hC (by omega)
  have k1C := k1.below hC (by omega)
  have bC := bB.trans (hC.mono (by omega))
  have sC := hC.size
  have hoC2 := hoC
  unfold OwnM at hoC2
  obtain ⟨c1, c3, rfl, _⟩ := own_form hoC2
  clear hC k0 k1
  unfold pcs rcs at k0C k1C
  dsimp only at k0C k1C
  unfold zrun zeroV at k1C
  dsimp only at k1C
  (refine Ga ?_)
  obtain ⟨Bs, hBs⟩ : ∃ n, B.heap.size = n := ⟨_, rfl⟩
  rw [hBs] at hoC sB sC
  have hl0 : b0 < Bs := by omega
  have hl1 : b1 < Bs := by omega
  refine W_loop (α := Nat) (fun i => [(1, .pointer (some ⟨b0, 0, none⟩)), (2, .pointer (some ⟨b1, 0, none⟩)), (10, .int .i64 (ms.length : Int)), (11, .int .i64 (i : Int))])
    (fun i X => i ≤ ms.length ∧ Below w.heap.size w X ∧ Blk X b0 [.string tx, .bool em, .int .i64 vl.k, .int .i64 vl.n, .float .f64 vl.f, .string vl.s, .slice c1 ms.length c3] 40 ∧ Blk X b1 [.string ⟨#[]⟩, .bool false, .int .i64 0, .int .i64 0, .float .f64 0, .string ⟨#[]⟩, .slice none 0 0] 40 ∧ OwnM Bs X (.slice c1 ms.length c3) ((ms.take i).map clM ++ ms.drop i) ∧ Bs ≤ X.heap.size) (fun i _ => ms.length - i) 0 ⟨Nat.zero_le _, Bel, (by (repeat (first | assumption | (apply Blk.below (hb := hb1); rotate_left; (focus ((try simp only [Sx.sizes]); omega)); rotate_right) | (apply Blk.below (hb := hb2); rotate_left; (focus ((try simp only [Sx.sizes]); omega)); rotate_right) | (apply Blk.below (hb := hb3); rotate_left; (focus ((try simp only [Sx.sizes]); omega)); rotate_right) | (apply Blk.below (hb := hb4); rotate_left; (focus ((try simp only [Sx.sizes]); omega)); rotate_right) | (apply Blk.below (hb := hb5); rotate_left; (focus ((try simp only [Sx.sizes]); omega)); rotate_right) | (apply Blk.below (hb := hb6); rotate_left; (focus ((try simp only [Sx.sizes]); omega)); rotate_right) | (apply Blk.below (hb := hb7); rotate_left; (focus ((try simp only [Sx.sizes]); omega)); rotate_right) | (apply Blk.below (hb := hb8); rotate_left; (focus ((try simp only [Sx.sizes]); omega)); rotate_right) | (apply Blk.below (hb := hb9); rotate_left; (focus ((try simp only [Sx.sizes]); omega)); rotate_right) | exact Blk.newE (by first | rfl | ((try simp only [Sx.sizes]); first | done | omega)) _ _ | exact Blk.put_same (by (try simp only [Sx.sizes]); first | done | omega) _ _ | (apply Blk.put_ne; (focus omega)) | apply Blk.alloc | apply Blk.drew)); done), (by (repeat (first | assumption | (apply Blk.below (hb := hb1); rotate_left; (focus ((try simp only [Sx.sizes]); omega)); rotate_right) | (apply Blk.below (hb := hb2); rotate_left; (focus ((try simp only [Sx.sizes]); omega)); rotate_right) | (apply Blk.below (hb := hb3); rotate_left; (focus ((try simp only [Sx.sizes]); omega)); rotate_right) | (apply Blk.below (hb := hb4); rotate_left; (focus ((try simp only [Sx.sizes]); omega)); rotate_right) | (apply Blk.below (hb := hb5); rotate_left; (focus ((try simp only [Sx.sizes]); omega)); rotate_right) | (apply Blk.below (hb := hb6); rotate_left; (focus ((try simp only [Sx.sizes]); omega)); rotate_right) | (apply Blk.below (hb := hb7); rotate_left; (focus ((try simp only [Sx.sizes]); omega)); rotate_right) | (apply Blk.below (hb := hb8); rotate_left; (focus ((try simp only [Sx.sizes]); omega)); rotate_right) | (apply Blk.below (hb := hb9); rotate_left; (focus ((try simp only [Sx.sizes]); omega)); rotate_right) | exact Blk.newE (by first | rfl | ((try simp only [Sx.sizes]); first | done | omega)) _ _ | exact Blk.put_same (by (try simp only [Sx.sizes]); first | done | omega) _ _ | (apply Blk.put_ne; (focus omega)) | apply Blk.alloc | apply Blk.drew)); done), own_put hoC hl0 _, by simp only [Sx.sizes]; exact sC⟩ ⟨rfl, rfl, rfl, rfl, trivial⟩ ?_
  clear hoC hoC2 k0C k1C bC sC
  rintro J i X ⟨hi, bX, k0, k1, hoX, sX⟩
  have hL : ((ms.take i).map clM ++ ms.drop i).length = ms.length := by rw [List.length_append, List.length_map, List.length_take, List.length_drop]; omega
  by_cases hil : i < ms.length
  · have hget : ∀ h, ((ms.take i).map clM ++ ms.drop i)[i]'h = ms[i] := fun _ => by
      rw [List.getElem_append_right (by rw [List.length_map, List.length_take]; omega)]
      simp only [List.length_map, List.length_take, Nat.min_eq_left (Nat.le_of_lt hil), Nat.sub_self, List.getElem_drop, Nat.add_zero]
    have hset' : ((ms.take i).map clM ++ ms.drop i).set i (clM ms[i]) = (ms.take (i + 1)).map clM ++ ms.drop (i + 1) := by
      rw [List.set_append_right _ _ (by rw [List.length_map, List.length_take]; omega), List.length_map, List.length_take, Nat.min_eq_left (Nat.le_of_lt hil), Nat.sub_self, List.take_succ_eq_append_getElem hil, List.map_append, List.drop_eq_getElem_cons hil, List.set_cons_zero, List.append_assoc]
      rfl
    generalize hLL : (ms.take i).map clM ++ ms.drop i = L at *
    have hrX := hoX.rows
    obtain ⟨g, off, rfl, hgl, hc⟩ := hrX.at (i := i) (by rw [List.length_map]; omega)
    rw [List.getElem_map, hget] at hc
    obtain ⟨q, hq⟩ : ∃ q, ms[i] = q := ⟨_, rfl⟩
    rw [hq] at hc hset'
    have hcv : ∀ j u, (vcs q.2)[j]? = some u → X.cell? ⟨g, off + i * 5 + 1 + j, none⟩ = some u := fun j u hu => by
      have := hc (j + 1) u (by
        match j, hu with
        | 0, hu => exact hu
        | 1, hu => exact hu
        | 2, hu => exact hu
        | 3, hu => exact hu)
      rwa [show off + i * 5 + (j + 1) = off + i * 5 + 1 + j by omega] at this
    have hg0 : ∀ Z, Below X.heap.size X Z → Blk Z b0 [.string tx, .bool em, .int .i64 vl.k, .int .i64 vl.n, .float .f64 vl.f, .string vl.s, .slice (some ⟨g, off, none⟩) ms.length c3] 40 := fun Z h => k0.below h (by omega)
    have hg1 : ∀ Z, Below X.heap.size X Z → Blk Z b1 [.string ⟨#[]⟩, .bool false, .int .i64 0, .int .i64 0, .float .f64 0, .string ⟨#[]⟩, .slice none 0 0] 40 := fun Z h => k1.below h (by omega)
    have hgo : ∀ Z, Below X.heap.size X Z → OwnM Bs Z (.slice (some ⟨g, off, none⟩) ms.length c3) L := fun Z h => own_below hoX h (Nat.le_refl _)
    (refine Ga ?_)
    refine W_drawT 13 (fun Z => Below X.heap.size X Z) rfl rfl ?_
    have hS := Below.drew (Below.refl X.heap.size X)
    generalize X.drew = Z at *
    refine T_takeV 0 1 12 rfl (by kernel_rfl) (by repeat (first | exact retQ_p | apply seqQ_p | apply blkQ_p | apply rndQ_p | apply cutQ_p)) hS ?_
    (refine Qb ?_)
    refine T_takeV 1 10 11 rfl (by kernel_rfl) (by repeat (first | exact retQ_p | apply seqQ_p | apply blkQ_p | apply rndQ_p | apply cutQ_p)) hS ?_
    apply Qst_load (v := .slice (some ⟨g, off, none⟩) ms.length c3)
    focus rfl
    focus rfl
    focus rfl
    focus exact fun A9 hA9 => hg0 A9 hA9
    focus rfl
    focus rfl
    (refine Qb ?_)
    refine T_takeV 2 10 10 rfl (by kernel_rfl) (by repeat (first | exact retQ_p | apply seqQ_p | apply blkQ_p | apply rndQ_p | apply cutQ_p)) hS ?_
    (refine Qb ?_)
    refine T_takeV 3 4 9 rfl (by kernel_rfl) (by repeat (first | exact retQ_p | apply seqQ_p | apply blkQ_p | apply rndQ_p | apply cutQ_p)) hS ?_
    (refine Qb ?_)
    refine T_takeV 4 6 8 rfl (by kernel_rfl) (by repeat (first | exact retQ_p | apply seqQ_p | apply blkQ_p | apply rndQ_p | apply cutQ_p)) hS ?_
    apply Qst_load (v := .slice (some ⟨g, off, none⟩) ms.length c3)
    focus rfl
    focus rfl
    focus rfl
    focus exact fun A9 hA9 => hg0 A9 hA9
    focus rfl
    focus rfl
    (refine Qb ?_)
    refine T_takeV 5 6 7 rfl (by kernel_rfl) (by repeat (first | exact retQ_p | apply seqQ_p | apply blkQ_p | apply rndQ_p | apply cutQ_p)) hS ?_
    (refine Qb ?_)
    refine T_takeV 6 7 6 rfl (by kernel_rfl) (by repeat (first | exact retQ_p | apply seqQ_p | apply blkQ_p | apply rndQ_p | apply cutQ_p)) hS ?_
    apply Qst_pu
    · apply P_idxm (j := i) (sz := 5)
      focus rfl
      focus rfl
      focus rfl
      focus rfl
      focus rfl
      focus omega
    focus rfl
    (refine Qb ?_)
    refine T_takeV 7 8 5 rfl (by kernel_rfl) (by repeat (first | exact retQ_p | apply seqQ_p | apply blkQ_p | apply rndQ_p | apply cutQ_p)) hS ?_
    (refine Qb ?_)
    refine T_takeV 8 9 4 rfl (by kernel_rfl) (by repeat (first | exact retQ_p | apply seqQ_p | apply blkQ_p | apply rndQ_p | apply cutQ_p)) hS ?_
    apply Qst_loadS (cs := vcs q.2)
    focus rfl
    focus rfl
    focus rfl
    focus rfl
    focus rfl
    focus exact fun A9 hA9 j v hj => cell_below hA9 (hcv j v hj)
    focus rfl
    (refine Qb ?_)
    refine T_any [9] 3 rfl (by kernel_rfl) (all1 ?_)
    (apply Lst_call; (focus rfl); (focus rfl))
    refine (Val.c_Clean q.2 Z).mono ?_
    rintro v V ⟨rfl, hV⟩
    apply Lst_nil
    apply rnQ_n
    have hS2 := hS.trans (hV.mono hS.size)
    refine ⟨hS2, ?_⟩
    clear hS hV
    have hS := hS2
    clear hS2
    refine T_takeV 10 11 2 rfl (by kernel_rfl) (by repeat (first | exact retQ_p | apply seqQ_p | apply blkQ_p | apply rndQ_p | apply cutQ_p)) hS ?_
    apply Qst_pu
    · apply P_idxm (j := i) (sz := 5)
      focus rfl
      focus rfl
      focus rfl
      focus rfl
      focus rfl
      focus omega
    focus rfl
    (refine Qb ?_)
    refine T_takeV 11 12 1 rfl (by kernel_rfl) (by repeat (first | exact retQ_p | apply seqQ_p | apply blkQ_p | apply rndQ_p | apply cutQ_p)) hS ?_
    (refine Qb ?_)
    refine T_last 12 (by kernel_rfl) ?_
    have bV := bX.trans (hS.mono bX.size)
    have k0V := hg0 V hS
    have k1V := hg1 V hS
    have hoV := hgo V hS
    have sV : Bs ≤ V.heap.size := Nat.le_trans sX hS.size
    have l0V := k0V.lt
    have l1V := k1V.lt
    have hoV2 := hoV
    unfold OwnM at hoV2
    rw [hL] at hoV2
    obtain ⟨_, _, e2, _, hcV⟩ := hoV.rows.at (i := i) (by rw [List.length_map]; omega)
    obtain ⟨g1, cap, l1, e1, _, hgB, kl, hl1, hset⟩ := own_setR0 hoV2 (mcs_len _) (by decide) (k := i) (by rw [List.length_map]; omega)
    cases e1
    cases e2
    rw [List.getElem_map, hget, hq] at hcV
    have hs2 := hset (mcs (clM q)) rfl
    rw [← List.map_set, hset'] at hs2
    have hk0 : l1[0 + i * 5]? = some (.string q.1) := (kl.cell _).symm.trans (hcV 0 _ rfl)
    have htk := take_one (vs := vcs (cleanV q.2)) hk0
    unfold Vl.v
    apply Lst_storeM (vs := vcs (cleanV q.2)) (hb := kl)
    focus rfl
    focus rfl
    focus rfl
    focus rfl
    focus exact fun u hu => by simp [vcs] at hu; rcases hu with rfl | rfl | rfl | rfl <;> rfl
    focus (show 0 + i * 5 + 1 + 4 ≤ l1.length; omega)
    rw [htk]
    apply Lst_nil
    apply rnQ_n
    (refine Ga ?_)
    refine rndQ_n (α := Nat) (i + 1) ⟨hil, Sx.Below.put bV (by omega) _, Blk.put_ne (by omega) k0V, Blk.put_ne (by omega) k1V, by unfold OwnM; rw [← hset', List.length_set, hL, hset']; exact hs2, by simp only [Sx.sizes]; exact sV⟩ ⟨rfl, rfl, rfl, ?_, trivial⟩ (by omega)
    exact congrArg (Value.int .i64) (by omega)
  · obtain rfl : i = ms.length := by omega
    rw [List.take_length, List.drop_length, List.append_nil] at hoX
    have l0 := k0.lt
    have l1 := k1.lt
    (refine Ga ?_)
    (apply Lst_call; (focus rfl); (focus rfl))
    refine (Val.c_Clean vl X).mono ?_
    rintro v V ⟨rfl, hV⟩
    have bV := bX.trans (hV.mono bX.size)
    have k0V := k0.below hV l0
    have k1V := k1.below hV l1
    have hoV : OwnM Bs V (.slice c1 ms.length c3) (ms.map clM) := own_below hoX hV (Nat.le_refl _)
    have l0V := k0V.lt
    have l1V := k1V.lt
    clear k0 k1
    unfold Vl.v
    (refine Ga ?_)
    (refine Reta ?_)
    refine ⟨⟨.slice c1 ms.length c3, rfl, ?_⟩, ?_⟩
    · exact OwnM.mk (B := Bs) (own_put (own_put hoV hl0 _) hl1 _)
    · rw [← hb0]
      exact Sx.Below.put (Sx.Below.put bV (Nat.le_refl _) _) (by omega) _
end
end Vw
end Go.Proofs.YtglfoofclicfpaaDoor
