/- (*Log).Sync. -/
import Derived.Test.YtfocnbmihcnaoaaGreatDoorWaL
namespace Go.Proofs.YtfocnbmihcnaoaaGreatDoor
set_option maxRecDepth 100000
namespace Wa
open Go Go.RowKit Sx Wire Dk
/-- Syncs of files, one behind the other, till one fails. -/
def syncM (d : Dsk) : List ByteArray → Int × List ByteArray × Dsk
  | [] => (0, [], d)
  | n :: r => if (d.sync n).1 = 0 then syncM (d.sync n).2 r else ((d.sync n).1, n :: r, (d.sync n).2)
def Lg.sync (g : Lg) (d : Dsk) : Int × Lg × Dsk :=
  if (g.fell d).dead = true then (43, g.fell d, d) else ((syncM d g.dirty).1, { g with dirty := (syncM d g.dirty).2.1, dead := decide ((syncM d g.dirty).1 = 43) }, (syncM d g.dirty).2.2)
theorem cut_done (d : Dsk) : d.done.cut ≤ d.cut := by
  unfold Dsk.done
  split
  · show d.cut - 1 ≤ d.cut
    omega
  · exact Int.le_refl _
theorem cut_sync (d : Dsk) (n : ByteArray) : (d.sync n).2.cut ≤ d.cut := by
  unfold Dsk.sync
  split
  · exact cut_done { d with es := Sx.put d.es n ⟨(d.file n).b, (d.file n).b.length⟩ }
  · exact Int.le_refl _
/-- What a step of Sync reads. -/
def CellS (A : World) (lb p : Nat) (dv : Value) (n : ByteArray) : Prop :=
  A.cell? ⟨lb, 0, none⟩ = some (.pointer (some ⟨p, 0, none⟩)) ∧ A.cell? ⟨lb, 7, none⟩ = some dv ∧ ∀ g off l c, dv = .slice (some ⟨g, off, none⟩) l c → A.cell? ⟨g, off + Int.toNat 0, none⟩ = some (.string n)
theorem NmO.at {w : World} {L : List ByteArray} {g off l c : Nat} (h : NmO w (.slice (some ⟨g, off, none⟩) l c) L) {j : Nat} (hj : j < L.length) : w.cell? ⟨g, off + j, none⟩ = some (.string L[j]) := by
  rcases h with ⟨e, _⟩ | ⟨g', off', cap, cs, e, hb, h1, h2, h3, h4, h7⟩
  · cases e
  · cases e
    rw [hb.cell]
    have e : ((cs.drop off).take L.length)[j]? = (L.map Value.string)[j]? := by rw [h4]
    rw [List.getElem?_take, if_pos hj, List.getElem?_drop, List.getElem?_map, List.getElem?_eq_getElem hj] at e
    exact e
theorem NmO.some {w : World} {L : List ByteArray} {a : Option Addr} {n c : Nat} (h : NmO w (.slice a n c) L) (hL : L ≠ []) : ∃ g off, a = some ⟨g, off, none⟩ := by
  rcases h with ⟨_, e⟩ | ⟨g, off, cap, cs, e, _⟩
  · exact absurd e hL
  · cases e
    exact ⟨g, off, rfl⟩
theorem CellS.of {A : World} {lb p : Nat} {fv dv : Value} {g : Lg} {n : ByteArray} {M : List ByteArray} (h : LgAt A lb p fv dv g) (hn : g.dirty = n :: M) : CellS A lb p dv n := by
  refine ⟨h.blk.cell 0, h.blk.cell 7, fun b off l c e => ?_⟩
  have hd := h.dirty
  rw [e, hn] at hd
  exact NmO.at hd (j := 0) (by simp)
theorem LgAt.dput {w : World} {lb p : Nat} {fv dv dv' : Value} {g : Lg} {L : List ByteArray} (h : LgAt w lb p fv dv g) (hn : NmO w dv' L) (ho : ∀ k, dv'.ownBlock = some k → dv.ownBlock = some k) : LgAt (w.putObj lb (.cells (lcs p fv dv' { g with dirty := L }).toArray 53)) lb p fv dv' { g with dirty := L } := by
  have hne := h.ne
  exact ⟨Blk.put_same h.blk.lt _ _, h.files.keep fun k hk => World.putObj_heap_other (fun e => hne.1 (by rw [hk, e])), hn.keep fun k hk => World.putObj_heap_other (fun e => hne.2 (by rw [ho k hk, e])), fun k hk hd => h.apart k hk (ho k hd)⟩
section
attribute [local irreducible] RnS RnT
attribute [local irreducible] W Lst Qst Pu seqQ blkQ rndQ cutQ retQ Does Enters IntKind.wrap bits sb World.alloc World.putObj Blk
theorem c_LSync (lb p mb : Nat) (fv dv : Value) (g : Lg) (d : Dsk) (hc : d.cut < 9223372036854775808) (hl : g.dirty.length ≤ 1000000) (w : World) (h : LgAt w lb p fv dv g) (hd : DkAt w p mb d) :
    Does Tryz.prog 11 #[.pointer (some ⟨lb, 0, none⟩)] w fun v w' => v = .int .i64 (g.sync d).1 ∧ ∃ dv', LgAt w' lb p fv dv' (g.sync d).2.1 ∧ DkAt w' p mb (g.sync d).2.2 ∧ Chg [lb, p, mb] w w' ∧ dv'.ownBlock = dv.ownBlock := by
  refine Does_of (args := [.pointer (some ⟨lb, 0, none⟩)]) Tryz.func11 (by kernel_rfl) rfl rfl rfl rfl rfl ?_
  (refine Ga ?_)
  (apply Lst_call; (focus rfl); (focus rfl))
  refine (c_fell lb p mb fv dv g d w h hd).mono ?_
  rintro v w1 ⟨rfl, h1, hd1, hc1⟩
  have c1 : Chg [lb, p, mb] w w1 := hc1.mono (by simp)
  unfold Lg.sync
  cases hdead : (g.fell d).dead with
  | true =>
    rw [if_pos rfl]
    (refine Ga ?_)
    (apply retQ1; (focus rfl))
    exact ⟨rfl, dv, h1, hd1, c1, rfl⟩
  | false =>
    rw [if_neg (by simp)]
    have eg : g.fell d = { g with dirty := g.dirty, dead := false } := by
      have : (g.fell d) = { g with dead := (g.fell d).dead } := rfl
      rw [this, hdead]
    rw [eg] at h1
    (refine Ga ?_)
    refine W_loop (α := List ByteArray × Dsk × Value) (fun _ => [(0, .pointer (some ⟨lb, 0, none⟩))])
      (fun x A => LgAt A lb p fv x.2.2 { g with dirty := x.1, dead := false } ∧ DkAt A p mb x.2.1 ∧ syncM x.2.1 x.1 = syncM d g.dirty ∧ x.2.1.cut < 9223372036854775808 ∧ x.1.length ≤ 1000000 ∧ Chg [lb, p, mb] w A ∧ x.2.2.ownBlock = dv.ownBlock) (fun x _ => x.1.length) (g.dirty, d, dv) ⟨h1, hd1, rfl, hc, hl, c1, rfl⟩ ⟨rfl, trivial⟩ ?_
    clear h1 hd1 c1 hc1 hd h
    rintro J ⟨L, d2, dv2⟩ A ⟨hL, hD, hM, hcut, hl2, hch, hob⟩
    dsimp only at hL hD hM hcut hl2 hob ⊢
    obtain ⟨a2, c2, e2, _⟩ := hL.dirty.form
    cases L with
    | nil =>
      have e2' : dv2 = .slice a2 0 c2 := e2
      subst e2'
      have hb := hL.blk
      unfold lcs at hb
      have hlt := hb.lt
      dsimp only at hb
      (refine Ga ?_)
      (apply retQ1; (focus rfl))
      have e : syncM d g.dirty = (0, [], d2) := hM.symm
      rw [e]
      exact ⟨rfl, _, hL, hD, hch, hob⟩
    | cons n M =>
      have e2' : dv2 = .slice a2 (M.length + 1) c2 := e2
      subst e2'
      obtain ⟨gb, go, rfl⟩ := hL.dirty.some (by simp)
      have hb := hL.blk
      unfold lcs at hb
      have hlt := hb.lt
      dsimp only at hb
      have hLd : LgAt A.drew lb p fv (.slice (some ⟨gb, go, none⟩) (M.length + 1) c2) { g with dirty := n :: M, dead := false } := hL.below (Below.drew (Below.refl _ _))
      have hDd : DkAt A.drew p mb d2 := hD.drew
      (refine Ga ?_)
      refine W_calm ?_
      refine W_drawS 14 (fun A => CellS A lb p (.slice (some ⟨gb, go, none⟩) (M.length + 1) c2) n) rfl rfl ?_
      have hS : CellS A.drew lb p (.slice (some ⟨gb, go, none⟩) (M.length + 1) c2) n := CellS.of hLd rfl
      refine S_takeV 0 13 rfl (by kernel_rfl) calm_no hS ?_
      (refine Qb ?_)
      refine S_takeV 1 12 rfl (by kernel_rfl) calm_no hS ?_
      (refine Qb ?_)
      refine S_takeV 2 11 rfl (by kernel_rfl) calm_no hS ?_
      (refine Qb ?_)
      refine S_takeV 3 10 rfl (by kernel_rfl) calm_no hS ?_
      (refine Qb ?_)
      refine S_takeV 4 9 rfl (by kernel_rfl) calm_no hS ?_
      apply Qst_loadc
      focus rfl
      focus rfl
      focus rfl
      focus exact fun A9 hA9 => hA9.1
      focus rfl
      (refine Qb ?_)
      refine S_takeV 5 8 rfl (by kernel_rfl) calm_no hS ?_
      (refine Qb ?_)
      refine S_takeV 6 7 rfl (by kernel_rfl) calm_no hS ?_
      (refine Qb ?_)
      refine S_takeV 7 6 rfl (by kernel_rfl) calm_no hS ?_
      (refine Qb ?_)
      refine S_takeV 8 5 rfl (by kernel_rfl) calm_no hS ?_
      apply Qst_loadc
      focus rfl
      focus rfl
      focus rfl
      focus exact fun A9 hA9 => hA9.2.1
      focus rfl
      (refine Qb ?_)
      refine S_takeV 9 4 rfl (by kernel_rfl) calm_no hS ?_
      apply Qst_pu
      · apply Tl.P_idxu (q := 0)
        focus rfl
        focus rfl
        focus rfl
        focus rfl
        focus rfl
        focus omega
        focus omega
      focus rfl
      (refine Qb ?_)
      refine S_takeV 10 3 rfl (by kernel_rfl) calm_no hS ?_
      apply Qst_loadc
      focus rfl
      focus rfl
      focus rfl
      focus exact fun A9 hA9 => hA9.2.2 _ _ _ _ rfl
      focus rfl
      (refine Qb ?_)
      refine S_any [11] 2 rfl (by kernel_rfl) (all1 ?_)
      (apply Lst_call; (focus rfl); (focus rfl))
      refine (c_Sync p mb d2 hcut n A.drew hDd).mono ?_
      rintro v w1 ⟨rfl, hD1, hc1⟩
      have hdk := hLd.disk hDd
      have hL1 : LgAt w1 lb p fv (.slice (some ⟨gb, go, none⟩) (M.length + 1) c2) { g with dirty := n :: M, dead := false } := hLd.chg hc1 hdk.1 hdk.2
      have hS2 : CellS w1 lb p (.slice (some ⟨gb, go, none⟩) (M.length + 1) c2) n := CellS.of hL1 rfl
      apply Lst_nil
      apply rnQ_n
      refine ⟨hS2, ?_⟩
      clear hS
      have hS := hS2
      clear hS2
      refine S_any [12] 1 rfl (by kernel_rfl) (all1 ?_)
      (apply Lst_call; (focus rfl); (focus rfl))
      refine (c_may lb p mb fv _ _ (d2.sync n).2 (d2.sync n).1 w1 hL1 hD1).mono ?_
      rintro v w2 ⟨rfl, hL2, hD2, hc2⟩
      have hS2 : CellS w2 lb p (.slice (some ⟨gb, go, none⟩) (M.length + 1) c2) n := CellS.of hL2 rfl
      apply Lst_nil
      apply rnQ_n
      refine ⟨hS2, ?_⟩
      clear hS
      have hS := hS2
      clear hS2
      refine S_takeV 13 0 rfl (by kernel_rfl) calm_no hS ?_
      (refine Ga ?_)
      have hS2 := hS
      (refine Qb ?_)
      refine S_done (by kernel_rfl) ?_
      refine calm_n ?_
      have b12 : Chg [lb, p, mb] A w2 := ((Chg.of (Below.drew (Below.refl A.heap.size A))).trans (hc1.mono (by simp))).trans (hc2.mono (by simp))
      by_cases he : (d2.sync n).1 = 0
      · have eg2 : Lg.may { g with dirty := n :: M, dead := false } (d2.sync n).1 = { g with dirty := n :: M, dead := false } := by
          unfold Lg.may
          rw [he]
          rfl
        rw [eg2] at hL2
        have hb2 := hL2.blk
        unfold lcs at hb2
        have hlt2 := hb2.lt
        dsimp only at hb2
        have htl := hL2.dirty.tail (by simp)
        have hput := hL2.dput htl.1 (fun k hk => htl.2 ▸ hk)
        rw [he]
        have hD3 : DkAt (w2.putObj lb (.cells (lcs p fv (sliced (some ⟨gb, go, none⟩) 1 (M.length + 1) c2 1) { g with dirty := M, dead := false }).toArray 53)) p mb (d2.sync n).2 := dk_log hD2 hL2 ((chg1 _).mono (by simp))
        have hM2 : syncM (d2.sync n).2 M = syncM d g.dirty := by
          rw [← hM]
          conv => rhs; unfold syncM
          rw [if_pos he]
        (refine Ga ?_)
        refine rndQ_n (α := List ByteArray × Dsk × Value) (M, (d2.sync n).2, sliced (some ⟨gb, go, none⟩) 1 (M.length + 1) c2 1) ⟨hput, hD3, hM2, ?_, ?_, ?_, htl.2.trans hob⟩ ⟨rfl, trivial⟩ (Nat.lt_succ_self _)
        · have := cut_sync d2 n
          dsimp only
          omega
        · rw [List.length_cons] at hl2
          dsimp only
          omega
        · exact (hch.trans b12).trans ((chg1 _).mono (by simp))
      · (refine Ga ?_)
        (apply retQ1; (focus rfl))
        have e : syncM d g.dirty = ((d2.sync n).1, n :: M, (d2.sync n).2) := by
          rw [← hM]
          unfold syncM
          rw [if_neg he]
        rw [e]
        exact ⟨rfl, _, hL2, hD2, hch.trans b12, hob⟩
end
end Wa
end Go.Proofs.YtfocnbmihcnaoaaGreatDoor
