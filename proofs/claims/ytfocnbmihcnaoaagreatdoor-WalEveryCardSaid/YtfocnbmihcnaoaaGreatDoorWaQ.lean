/- (*Log).Append's deferred function; rules for Append. -/
import Derived.Test.YtfocnbmihcnaoaaGreatDoorWaR
namespace Go.Proofs.YtfocnbmihcnaoaaGreatDoor
set_option maxRecDepth 100000
namespace Wa
open Go Go.RowKit Sx Wire Dk
/-- A deferred function that does not recover. -/
theorem D_plain {P : Program} {n g m : Nat} {fn : Func} {y : Code} {args : List Value} {u : FrameMode} {S : World → Prop} {w : World} (hf : P.funcs[g]? = some fn) (hb : fn.body = some y) (hr : fn.results = #[]) (hn : fn.ntmps = n) (hl : Nat.ble args.length n = true)
    (h : W P none n y (retU S) (Sx.start args) [] w) : CallsDIn Fence.wide m P g args.toArray u w fun e v w' => (∃ x, e = .returned x) ∧ v = u ∧ S w' := by
  have hl' : args.length ≤ n := by simpa using hl
  refine callsDIn_of_wpSIn hf hb trivial fun c₀ cs hc => ?_
  have hfit : Fits n (Sx.start args) [] { tmps := args.toArray ++ Array.replicate (fn.ntmps - args.toArray.size) undef, defers := [] } := ⟨by simp [hn]; omega, rfl, fun i => Sx.start_eq args _ i⟩
  have hsame : c₀ :: cs = { c₀ with mode := u } :: cs := by rw [← hc]
  refine wpSIn_of_wpIn rfl (Code.wpIn_mono (fun e a w' hq => ?_) (h m _ hfit))
  obtain ⟨G, ds, hg, hq⟩ := hq
  have hres : (results fn a.tmps).run P w' = .ok (.tuple #[]) w' := run_results (rs := []) (vs := []) hr (by decide) hg trivial
  cases e with
  | normal => exact ⟨hg.defers.trans hq.1, u, hsame, _, hres, ⟨_, rfl⟩, rfl, hq.2⟩
  | ret => exact ⟨hg.defers.trans hq.1, u, hsame, _, hres, ⟨_, rfl⟩, rfl, hq.2⟩
  | exit i => exact hq.elim
  | goto l => exact hq.elim
  | panic ch => exact hq.elim
  | outgrown => exact hq.elim
theorem W_cut3 {P : Program} {rd : Option Nat} {n : Nat} {α : Type} {Q : Post} {F : Fr} {ds : List Deferred} {w : World} (vals : α → St) (M : α → World → Prop) {x y z : Code} (h1 : W P rd n x (seqQ P rd n y (cutQ vals M Q ds)) F ds w)
    (h2 : ∀ (J : Fr) (g : α) (w' : World), M g w' → W P rd n z Q (fr J (vals g)) ds w') : W P rd n x (seqQ P rd n y (seqQ P rd n z Q)) F ds w := Tl.W_post h1 fun e F ds' w h => by
  cases e with
  | normal => exact Tl.W_post h (Tl.cut_seq h2)
  | _ => exact h
theorem LgAt.fput {w : World} {lb p : Nat} {fv fv' dv : Value} {g : Lg} {L : List ByteArray} (h : LgAt w lb p fv dv g) (hn : NmO w fv' L) (ho : ∀ k, fv'.ownBlock = some k → fv.ownBlock = some k) : LgAt (w.putObj lb (.cells (lcs p fv' dv { g with files := L }).toArray 53)) lb p fv' dv { g with files := L } := by
  have hne := h.ne
  exact ⟨Blk.put_same h.blk.lt _ _, hn.keep fun k hk => World.putObj_heap_other (fun e => hne.1 (by rw [ho k hk, e])), h.dirty.keep fun k hk => World.putObj_heap_other (fun e => hne.2 (by rw [hk, e])), fun k hk hd => h.apart k (ho k hk) hd⟩
def CellX (A : World) (h lb X Y n0 s0 : Nat) : Prop :=
  A.cell? ⟨h, 0, none⟩ = some (.pointer (some ⟨lb, 0, none⟩)) ∧ A.cell? ⟨X, 0, none⟩ = some (.int .i64 (n0 : Int)) ∧ A.cell? ⟨Y, 0, none⟩ = some (.int .i64 (s0 : Int))
section
attribute [local irreducible] RnS RnT
attribute [local irreducible] W Lst Qst Pu seqQ blkQ rndQ cutQ retQ Does Enters IntKind.wrap bits sb World.alloc World.putObj Blk
theorem D_app0 (h X Y E0 : Nat) (w : World) (ke : Blk w E0 [.int .i64 0] 29) :
    CallsDIn Fence.wide 0 Tryz.prog 25 [.pointer (some ⟨E0, 0, none⟩), .pointer (some ⟨h, 0, none⟩), .pointer (some ⟨X, 0, none⟩), .pointer (some ⟨Y, 0, none⟩)].toArray .returning w fun e v w' => (∃ x, e = .returned x) ∧ v = .returning ∧ w' = w := by
  refine D_plain (args := [.pointer (some ⟨E0, 0, none⟩), .pointer (some ⟨h, 0, none⟩), .pointer (some ⟨X, 0, none⟩), .pointer (some ⟨Y, 0, none⟩)]) Tryz.func25 rfl rfl rfl rfl ?_
  (refine Ga ?_)
  exact ⟨rfl, rfl⟩
theorem D_app1 (h lb p X Y E0 n0 s0 : Nat) (e : Int) (he : e ≠ 0) (fv dv : Value) (g : Lg) (w : World) (ke : Blk w E0 [.int .i64 e] 29) (kb : Blk w h [.pointer (some ⟨lb, 0, none⟩)] 27) (kX : Blk w X [.int .i64 (n0 : Int)] 3) (kY : Blk w Y [.int .i64 (s0 : Int)] 3)
    (hn0 : n0 ≤ g.files.length) (hn1 : h ≠ lb) (hn2 : X ≠ lb) (hn3 : Y ≠ lb) (hn4 : E0 ≠ lb) (hL : LgAt w lb p fv dv g) :
    CallsDIn Fence.wide 0 Tryz.prog 25 [.pointer (some ⟨E0, 0, none⟩), .pointer (some ⟨h, 0, none⟩), .pointer (some ⟨X, 0, none⟩), .pointer (some ⟨Y, 0, none⟩)].toArray .returning w fun e' v w' => (∃ x, e' = .returned x) ∧ v = .returning ∧ (Blk w' E0 [.int .i64 e] 29 ∧ Chg [lb] w w' ∧ ∃ fv', LgAt w' lb p fv' dv { g with files := g.files.take n0, size := s0 } ∧ ∀ k, fv'.ownBlock = some k → fv.ownBlock = some k) := by
  refine D_plain (args := [.pointer (some ⟨E0, 0, none⟩), .pointer (some ⟨h, 0, none⟩), .pointer (some ⟨X, 0, none⟩), .pointer (some ⟨Y, 0, none⟩)]) Tryz.func25 rfl rfl rfl rfl ?_
  obtain ⟨a1, c1, rfl, hc1⟩ := hL.files.form
  obtain ⟨a2, c2, rfl, _⟩ := hL.dirty.form
  (refine Ga ?_)
  refine W_calm ?_
  refine W_drawS 15 (fun A => CellX A h lb X Y n0 s0) rfl rfl ?_
  have hS : CellX w.drew h lb X Y n0 s0 := ⟨kb.cell 0, kX.cell 0, kY.cell 0⟩
  have hb : Blk w.drew lb (lcs p (.slice a1 g.files.length c1) (.slice a2 g.dirty.length c2) g) 53 := hL.blk.drew
  unfold lcs at hb
  have hlt : lb < w.drew.heap.size := hb.lt
  have hlt2 : lb < w.heap.size := hb.lt
  refine S_takeV 0 14 rfl (by kernel_rfl) calm_no hS ?_
  apply Qst_loadc
  focus rfl
  focus rfl
  focus rfl
  focus exact fun A9 hA9 => hA9.1
  focus rfl
  (refine Qb ?_)
  refine S_takeV 1 13 rfl (by kernel_rfl) calm_no hS ?_
  apply Qst_loadc
  focus rfl
  focus rfl
  focus rfl
  focus exact fun A9 hA9 => hA9.1
  focus rfl
  (refine Qb ?_)
  refine S_takeV 2 12 rfl (by kernel_rfl) calm_no hS ?_
  apply Qst_loadc
  focus rfl
  focus rfl
  focus rfl
  focus exact fun A9 hA9 => hA9.1
  focus rfl
  (refine Qb ?_)
  refine S_takeV 3 11 rfl (by kernel_rfl) calm_no hS ?_
  (refine Qb ?_)
  refine S_takeV 4 10 rfl (by kernel_rfl) calm_no hS ?_
  (refine Qb ?_)
  refine S_takeV 6 9 rfl (by kernel_rfl) calm_no hS ?_
  apply Qst_loadc
  focus rfl
  focus rfl
  focus rfl
  focus exact fun A9 hA9 => hA9.2.1
  focus rfl
  (refine Qb ?_)
  refine S_takeV 8 8 rfl (by kernel_rfl) calm_no hS ?_
  apply Qst_loadc
  focus rfl
  focus rfl
  focus rfl
  focus exact fun A9 hA9 => hA9.2.2
  focus rfl
  (refine Qb ?_)
  refine S_any [5] 7 rfl (by kernel_rfl) (all1 ?_)
  (refine Ga ?_)
  have hS2 := hS
  try apply Lst_nil
  apply rnQ_n
  refine ⟨hS2, ?_⟩
  clear hS
  have hS := hS2
  clear hS2
  refine S_takeV 7 6 rfl (by kernel_rfl) calm_no hS ?_
  apply Qst_pu
  · apply P_lslice_hi (sz := 1)
    focus rfl
    focus rfl
    focus rfl
    focus rfl
    focus rfl
    focus omega
    focus omega
  focus rfl
  (refine Qb ?_)
  refine S_takeV 9 5 rfl (by kernel_rfl) calm_no hS ?_
  (refine Qb ?_)
  refine S_takeV 10 4 rfl (by kernel_rfl) calm_no hS ?_
  (refine Qb ?_)
  refine S_any [11] 3 rfl (by kernel_rfl) (all1 ?_)
  (refine Ga ?_)
  have hS2 : CellX (w.drew.putObj lb (.cells (lcs p (sliced a1 0 n0 c1 1) (.slice a2 g.dirty.length c2) { g with files := g.files.take n0 }).toArray 53)) h lb X Y n0 s0 := ⟨(Blk.put_ne hn1 kb.drew).cell 0, (Blk.put_ne hn2 kX.drew).cell 0, (Blk.put_ne hn3 kY.drew).cell 0⟩
  try apply Lst_nil
  apply rnQ_n
  refine ⟨hS2, ?_⟩
  clear hS
  have hS := hS2
  clear hS2
  refine S_takeV 12 2 rfl (by kernel_rfl) calm_no hS ?_
  (refine Qb ?_)
  refine S_takeV 13 1 rfl (by kernel_rfl) calm_no hS ?_
  (refine Qb ?_)
  refine S_any [14] 0 rfl (by kernel_rfl) (all1 ?_)
  (refine Ga ?_)
  have hS2 : CellX ((w.drew.putObj lb (.cells (lcs p (sliced a1 0 n0 c1 1) (.slice a2 g.dirty.length c2) { g with files := g.files.take n0 }).toArray 53)).putObj lb (.cells (lcs p (sliced a1 0 n0 c1 1) (.slice a2 g.dirty.length c2) { g with files := g.files.take n0, size := s0 }).toArray 53)) h lb X Y n0 s0 := ⟨(Blk.put_ne hn1 (Blk.put_ne hn1 kb.drew)).cell 0, (Blk.put_ne hn2 (Blk.put_ne hn2 kX.drew)).cell 0, (Blk.put_ne hn3 (Blk.put_ne hn3 kY.drew)).cell 0⟩
  try apply Lst_nil
  apply rnQ_n
  refine ⟨hS2, ?_⟩
  clear hS
  have hS := hS2
  clear hS2
  refine S_done (by kernel_rfl) ?_
  refine calm_n ?_
  have hLd : LgAt w.drew lb p (.slice a1 g.files.length c1) (.slice a2 g.dirty.length c2) g := hL.below (Below.drew (Below.refl _ _))
  have htk := hLd.files.take n0 hn0
  refine ⟨rfl, Blk.put_ne hn4 (Blk.put_ne hn4 ke.drew), (((Chg.refl _ w).drew).put (.inl (by simp)) _).put (.inl (by simp)) _, sliced a1 0 n0 c1 1, ?_, htk.2⟩
  have hA := LgAt.fput (L := g.files.take n0) hLd htk.1 htk.2
  exact hA.put (g' := { g with files := g.files.take n0, size := s0 }) rfl rfl
end
end Wa
end Go.Proofs.YtfocnbmihcnaoaaGreatDoor
