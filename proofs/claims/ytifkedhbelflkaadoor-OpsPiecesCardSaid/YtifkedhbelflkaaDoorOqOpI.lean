/- Package ops: pieces of a text, and Join where all go on, one behind the other. -/
import Derived.Test.YtifkedhbelflkaaDoorOqOpH
namespace Go.Proofs.YtifkedhbelflkaaDoor
set_option maxRecDepth 100000
namespace Op
open Go Go.RowKit Sx Tl Val
open Utf (rs tl Tabs cutS)
/-- A row of runes as texts of at most 4096 runes: like o, but for ids, left neighbours, texts. -/
def chunks : Nat → Mo → List Int → List Mo
  | 0, _, _ => []
  | f + 1, o, r => if r = [] then [] else { o with tx := runesBytes (r.take 4096) } :: chunks f { o with id := (o.id.1, o.id.2 + min r.length 4096), l := (o.id.1, o.id.2 + min r.length 4096 - 1), tx := runesBytes (r.take 4096) } (r.drop 4096)
theorem chunks_fuel : ∀ (f g : Nat) (o : Mo) (r : List Int), r.length ≤ f → r.length ≤ g → chunks f o r = chunks g o r
  | 0, 0, _, _, _, _ => rfl
  | 0, g + 1, o, r, h, _ => by
    have : r = [] := List.eq_nil_of_length_eq_zero (by omega)
    unfold chunks
    rw [if_pos this]
  | f + 1, 0, o, r, _, h => by
    have : r = [] := List.eq_nil_of_length_eq_zero (by omega)
    unfold chunks
    rw [if_pos this]
  | f + 1, g + 1, o, r, hf, hg => by
    unfold chunks
    by_cases h : r = []
    · rw [if_pos h, if_pos h]
    · rw [if_neg h, if_neg h]
      have hp : 0 < r.length := List.length_pos_iff.2 h
      rw [chunks_fuel f g _ (r.drop 4096) (by rw [List.length_drop]; omega) (by rw [List.length_drop]; omega)]
theorem chunks_nil (f : Nat) (o : Mo) : chunks f o [] = [] := by
  cases f with
  | zero => rfl
  | succ f => unfold chunks; rw [if_pos rfl]
theorem chunks_step {r : List Int} (o : Mo) (h : r ≠ []) : chunks r.length o r = { o with tx := runesBytes (r.take 4096) } :: chunks (r.drop 4096).length { o with id := (o.id.1, o.id.2 + min r.length 4096), l := (o.id.1, o.id.2 + min r.length 4096 - 1), tx := runesBytes (r.take 4096) } (r.drop 4096) := by
  obtain ⟨n, hn⟩ : ∃ n, r.length = n + 1 := ⟨r.length - 1, by have := List.length_pos_iff.2 h; omega⟩
  rw [hn]
  conv => lhs; unfold chunks
  rw [if_neg h, hn, chunks_fuel n (r.drop 4096).length _ _ (by rw [List.length_drop]; omega) (Nat.le_refl _)]
/-- All blocks but one are as they were. -/
structure Kp (bo : Nat) (C A : World) : Prop where
  os : A.os = C.os
  tape : A.tape = C.tape
  output : A.output = C.output
  size : C.heap.size ≤ A.heap.size
  block : ∀ j, j < C.heap.size → j ≠ bo → A.heap[j]? = C.heap[j]?
theorem Kp.refl (bo : Nat) (C : World) : Kp bo C C := ⟨rfl, rfl, rfl, Nat.le_refl _, fun _ _ _ => rfl⟩
theorem Kp.below {bo : Nat} {C A A' : World} (h : Kp bo C A) (hb : Below C.heap.size A A') : Kp bo C A' :=
  ⟨hb.os.trans h.os, hb.tape.trans h.tape, hb.output.trans h.output, Nat.le_trans h.size hb.size, fun j h1 h2 => (hb.block j h1).trans (h.block j h1 h2)⟩
theorem Kp.put {bo : Nat} {C A : World} (h : Kp bo C A) (o : Obj) : Kp bo C (A.putObj bo o) :=
  ⟨h.os, h.tape, h.output, by rw [World.putObj_size]; exact h.size, fun j h1 h2 => (World.putObj_heap_other h2).trans (h.block j h1 h2)⟩
theorem Kp.low {bo : Nat} {C A : World} (h : Kp bo C A) (hbo : bo ≤ C.heap.size) : Below bo C A := ⟨h.os, h.tape, h.output, h.size, fun j hj => h.block j (by omega) (by omega)⟩
theorem Kp.ints {bo n c : Nat} {C A : World} {a : Option Addr} {k : IntKind} {zs : List Int} (h : Kp bo C A) (hi : Ints C k (.slice a n c) zs) (hb : ∀ b off sp, a = some ⟨b, off, sp⟩ → b ≠ bo) : Ints A k (.slice a n c) zs := by
  obtain ⟨b, off, cap, h1, h2, h3⟩ := hi
  refine ⟨b, off, cap, h1, fun hz => Nat.lt_of_lt_of_le (h2 hz) h.size, fun j hj => ?_⟩
  have hz : zs ≠ [] := fun e => by rw [e] at hj; exact absurd hj (Nat.not_lt_zero _)
  rcases h1 with h1 | ⟨_, h1⟩
  · have e : a = some ⟨b, off, none⟩ := by cases h1; rfl
    rw [World.cell?_of_block (h.block b (h2 hz) (hb b off none e))]
    exact h3 j hj
  · exact absurd h1 hz
theorem own_low' {B B' : Nat} {w : World} {v : Value} {l : List Mo} (h : OwnO B w v l) (hB : B' ≤ B) : OwnO B' w v l := by
  refine ⟨h.1, ?_⟩
  rcases h.2 with h1 | ⟨g, cap, cur, h1, h2, h3⟩
  · exact .inl h1
  · exact .inr ⟨g, cap, cur, h1, Nat.le_trans hB h2, h3⟩
theorem one_row {w : World} {b : Nat} {o : Mo} (h : Blk w b (ocs o) 31) : SRows w 22 (.slice (some ⟨b, 0, none⟩) 1 1) ([o].map ocs) := by
  refine SRows.of_own (base := 0) (e := 31) (nn := 1) ⟨rfl, .inr ⟨b, 1, (ocs o).toArray, rfl, Nat.zero_le _, h, Nat.le_refl _, by decide, rfl, rfl⟩⟩ (ocs_len [o]) (by decide)
section
attribute [local irreducible] RnS
attribute [local irreducible] W Lst Qst Pu seqQ blkQ rndQ cutQ retQ Does Enters IntKind.wrap bits sb World.alloc World.putObj Blk
set_option maxHeartbeats 2000000 in
theorem c_Compact (ls : List Mo) (a : Option Addr) (c : Nat) (hl : ls.length ≤ 1000000) (hd : Dis (fid ls) ls.length) (w : World) (hr : SRows w 22 (.slice a ls.length c) (ls.map ocs)) : Does Tryd.prog 34 #[.slice a ls.length c, .func (.func 35) #[] #[]] w fun v w' => v = .slice a ls.length c ∧ Below w.heap.size w w' := by
  refine Does_of (args := [.slice a ls.length c, .func (.func 35) #[] #[]]) Tryd.func34 (by kernel_rfl) rfl rfl rfl rfl rfl ?_
  by_cases h2 : ls.length < 2
  · (refine Ga ?_)
    (apply retQ1; (focus rfl))
    exact ⟨rfl, Bel⟩
  · (refine Ga ?_)
    refine W_loop (α := Nat) (fun k => [(0, .slice a ls.length c), (1, .func (.func 35) #[] #[]), (5, .int .i64 ((k + 1 : Nat) : Int))]) (fun k A => k + 1 ≤ ls.length ∧ Below w.heap.size w A) (fun k _ => ls.length - k) 0 ⟨by omega, Below.refl _ _⟩ ⟨rfl, rfl, rfl, trivial⟩ ?_
    rintro J k A ⟨hk, bA⟩
    by_cases hkl : k + 1 < ls.length
    · have hj1 : arith .sub .i64 ((k + 1 : Nat) : Int) 1 = (k : Int) := by
        have : ((k + 1 : Nat) : Int) - 1 = (k : Int) := by omega
        show IntKind.i64.wrap (((k + 1 : Nat) : Int) - 1) = _
        rw [this]
        exact wi64 (by omega) (by omega)
      have hrA := SRows.below hr bA (Nat.le_refl _)
      obtain ⟨g, off, rfl, _, hc1⟩ := hrA.at (i := k + 1) (by rw [List.length_map]; omega)
      obtain ⟨g', off', e', _, hc0⟩ := hrA.at (i := k) (by rw [List.length_map]; omega)
      cases e'
      rw [List.getElem_map] at hc1 hc0
      have hne : ls[k + 1].id ≠ (ls[k]'(by omega)).id := fun e => by
        have := hd (k + 1) k (by omega) (by omega) (by rw [fid_at (by omega), fid_at (by omega), e])
        omega
      generalize ls[k + 1] = o1 at *
      generalize ls[k]'(by omega) = o0 at *
      (refine Ga ?_)
      refine W_drawS 11 (fun Z => Below A.heap.size A Z) rfl rfl ?_
      have hS := Below.drew (Below.refl A.heap.size A)
      generalize A.drew = Z at *
      refine S_takeV 0 10 rfl (by kernel_rfl) (by repeat (first | exact retQ_p | apply seqQ_p | apply blkQ_p | apply rndQ_p | apply cutQ_p)) hS ?_
      (refine Qb ?_)
      refine S_takeV 1 9 rfl (by kernel_rfl) (by repeat (first | exact retQ_p | apply seqQ_p | apply blkQ_p | apply rndQ_p | apply cutQ_p)) hS ?_
      (refine Qb ?_)
      refine S_takeV 2 8 rfl (by kernel_rfl) (by repeat (first | exact retQ_p | apply seqQ_p | apply blkQ_p | apply rndQ_p | apply cutQ_p)) hS ?_
      (refine Qb ?_)
      refine S_takeV 3 7 rfl (by kernel_rfl) (by repeat (first | exact retQ_p | apply seqQ_p | apply blkQ_p | apply rndQ_p | apply cutQ_p)) hS ?_
      apply Qst_pu
      · apply P_idxm (j := k+1) (sz := 22)
        focus rfl
        focus rfl
        focus rfl
        focus rfl
        focus rfl
        focus omega
      focus rfl
      (refine Qb ?_)
      refine S_takeV 4 6 rfl (by kernel_rfl) (by repeat (first | exact retQ_p | apply seqQ_p | apply blkQ_p | apply rndQ_p | apply cutQ_p)) hS ?_
      apply Qst_loadS (cs := ocs o1)
      focus rfl
      focus rfl
      focus rfl
      focus rfl
      focus rfl
      focus exact fun A9 hA9 j v hj => cell_below hA9 (hc1 j v hj)
      focus rfl
      (refine Qb ?_)
      refine S_takeV 5 5 rfl (by kernel_rfl) (by repeat (first | exact retQ_p | apply seqQ_p | apply blkQ_p | apply rndQ_p | apply cutQ_p)) hS ?_
      (refine Qb ?_)
      refine S_takeV 6 4 rfl (by kernel_rfl) (by repeat (first | exact retQ_p | apply seqQ_p | apply blkQ_p | apply rndQ_p | apply cutQ_p)) hS ?_
      (refine Qb ?_)
      refine S_takeV 7 3 rfl (by kernel_rfl) (by repeat (first | exact retQ_p | apply seqQ_p | apply blkQ_p | apply rndQ_p | apply cutQ_p)) hS ?_
      (refine Qb ?_)
      refine S_takeV 8 2 rfl (by kernel_rfl) (by repeat (first | exact retQ_p | apply seqQ_p | apply blkQ_p | apply rndQ_p | apply cutQ_p)) hS ?_
      apply Qst_pu
      · apply P_idxm (j := k) (sz := 22)
        focus rfl
        focus rfl
        focus rfl
        focus rfl
        focus rfl
        focus omega
      focus rfl
      (refine Qb ?_)
      refine S_takeV 9 1 rfl (by kernel_rfl) (by repeat (first | exact retQ_p | apply seqQ_p | apply blkQ_p | apply rndQ_p | apply cutQ_p)) hS ?_
      apply Qst_loadS (cs := ocs o0)
      focus rfl
      focus rfl
      focus rfl
      focus rfl
      focus rfl
      focus exact fun A9 hA9 j v hj => cell_below hA9 (hc0 j v hj)
      focus rfl
      (refine Qb ?_)
      refine S_any [10] 0 rfl (by kernel_rfl) (all1 ?_)
      (apply Lst_call; (focus rfl); (focus rfl))
      refine (c_eqid o1 o0 Z).mono ?_
      rintro v V ⟨rfl, hV⟩
      rw [decide_eq_false hne]
      apply Lst_nil
      apply rnQ_n
      have hS2 := hS.trans (hV.mono hS.size)
      refine ⟨hS2, ?_⟩
      refine S_done (by kernel_rfl) ?_
      (refine Ga ?_)
      refine rndQ_n (α := Nat) (k + 1) ⟨hkl, bA.trans (hS2.mono bA.size)⟩ ⟨rfl, rfl, ?_, trivial⟩ (by omega)
      exact congrArg (Value.int .i64) (by omega)
    · (refine Ga ?_)
      (apply retQ1; (focus rfl))
      exact ⟨rfl, bA⟩
/-- Texts in memory. -/
def Strs (w : World) (v : Value) (xs : List ByteArray) : Prop := ∃ B, w.ownsRow B 9 1 v xs.length (xs.map Value.string)
set_option maxHeartbeats 2000000 in
theorem c_Cat (xs : List ByteArray) (v : Value) (hl : xs.length ≤ 1000) (hs : (Lib.join (xs.map (·.data.toList)) []).length ≤ 1000000) (w : World) (h : Strs w v xs) (h1 : xs ≠ []) : Does Tryd.prog 55 #[v, .string ⟨#[]⟩] w fun u w' => u = .string ⟨(Lib.join (xs.map (·.data.toList)) []).toArray⟩ ∧ Below w.heap.size w w' := by
  obtain ⟨B, hl1, h⟩ := h
  have hp := List.length_pos_iff.2 h1
  rcases h with ⟨_, h0⟩ | ⟨g, cap, cur, rfl, hB, hg, hc, hm, hz, ht⟩
  · omega
  · unfold Does
    refine ⟨Sx.enters_of Tryd.func55 (by kernel_rfl) rfl, ?_⟩
    have hcells : ∀ (j : Nat) x, xs[j]? = some x → w.cell? ⟨g, 0 + j, none⟩ = some (.string x) := fun j x hj => by
      have hjl : j < xs.length := (List.getElem?_eq_some_iff.1 hj).1
      have h1 : (cur.toList.take (xs.length * 1))[j]? = some (.string x) := by rw [ht, List.getElem?_map, hj]; rfl
      rw [List.getElem?_take] at h1
      have hg' : w.heap[g]? = some (.cells cur 9) := hg
      simp only [World.cell?, hg', Nat.zero_add]
      split at h1
      · rw [← h1]; simp
      · cases h1
    exact (Tryd.strings_Join g 0 cap xs ⟨#[]⟩ w hcells (lt_of_some hg) (by omega) hc (Nat.le_trans hs (by decide))).mono fun e w' h => ⟨_, h.1, rfl, h.2⟩
set_option maxHeartbeats 4000000 in
theorem c_pieces (o : Mo) (hk : o.k = 1) (xv : Value) (xs : List ByteArray) (all : ByteArray) (hall : (⟨(Lib.join (xs.map (·.data.toList)) []).toArray⟩ : ByteArray) = all) (hl : xs.length ≤ 1000) (hne : xs ≠ []) (hs : all.size ≤ 1000000) (hv : Lib.validD (tl all) = true) (hclk : o.id.2 + (rs (tl all)).length ≤ 9007199254740992) (h1 : 1 ≤ o.id.2) (w : World) (hx : Strs w xv xs) :
    Does Tryd.prog 37 #[.slice none 0 0, .agg (ocs o).toArray, xv] w fun v w' => OwnO w.heap.size w' v (chunks (rs (tl all)).length o (rs (tl all))) ∧ Below w.heap.size w w' := by
  refine Does_of (args := [.slice none 0 0, .agg (ocs o).toArray, xv]) Tryd.func37 (by kernel_rfl) rfl rfl rfl rfl rfl ?_
  have hrl := Utf.rs_length (tl all)
  have hrl2 : (tl all).length = all.size := rfl
  unfold ocs
  (refine Ga ?_)
  refine Lst_abs (fun A => Below w.heap.size w A ∧ Blk A w.heap.size (ocs o) 31) ⟨Bel, by unfold ocs; exact (by (repeat (first | assumption | (apply Blk.below (hb := hb1); rotate_left; (focus ((try simp only [Sx.sizes]); omega)); rotate_right) | (apply Blk.below (hb := hb2); rotate_left; (focus ((try simp only [Sx.sizes]); omega)); rotate_right) | (apply Blk.below (hb := hb3); rotate_left; (focus ((try simp only [Sx.sizes]); omega)); rotate_right) | (apply Blk.below (hb := hb4); rotate_left; (focus ((try simp only [Sx.sizes]); omega)); rotate_right) | (apply Blk.below (hb := hb5); rotate_left; (focus ((try simp only [Sx.sizes]); omega)); rotate_right) | (apply Blk.below (hb := hb6); rotate_left; (focus ((try simp only [Sx.sizes]); omega)); rotate_right) | (apply Blk.below (hb := hb7); rotate_left; (focus ((try simp only [Sx.sizes]); omega)); rotate_right) | (apply Blk.below (hb := hb8); rotate_left; (focus ((try simp only [Sx.sizes]); omega)); rotate_right) | (apply Blk.below (hb := hb9); rotate_left; (focus ((try simp only [Sx.sizes]); omega)); rotate_right) | exact Blk.newE (by first | rfl | ((try simp only [Sx.sizes]); first | done | omega)) _ _ | exact Blk.put_same (by (try simp only [Sx.sizes]); first | done | omega) _ _ | (apply Blk.put_ne; (focus omega)) | apply Blk.alloc | apply Blk.drew)); done)⟩ ?_
  rintro A ⟨bA, k0⟩
  have sA := bA.size
  have l0 := k0.lt
  have hxA : Strs A xv xs := by
    obtain ⟨B, hB⟩ := hx
    exact ⟨B, own_below hB bA (Nat.le_refl _)⟩
  (apply Lst_call; (focus rfl); (focus rfl))
  refine (c_Cat xs xv hl (by have : (Lib.join (xs.map (·.data.toList)) []).length = all.size := by rw [← hall]; show _ = (⟨(Lib.join (xs.map (·.data.toList)) []).toArray⟩ : ByteArray).data.size; simp
                             omega) A hxA hne).mono ?_
  rintro v B ⟨rfl, hB⟩
  rw [hall]
  have bB := bA.trans (hB.mono sA)
  have k0B := k0.below hB l0
  have sB := Nat.le_trans sA hB.size
  have l0B := k0B.lt
  obtain ⟨bo, hbo⟩ : ∃ b, w.heap.size = b := ⟨_, rfl⟩
  rw [hbo] at k0B l0B ⊢
  rw [hbo] at bB
  (refine Ga ?_)
  apply Lst_torunes
  focus rfl
  focus rfl
  focus rfl
  focus rfl
  focus exact hs
  focus exact hv
  focus rfl
  intro ra rc C hra hrc hir hC
  have bC := bB.trans (hC.mono (by omega))
  have k0C := k0B.below hC l0B
  have l0C := k0C.lt
  obtain ⟨R, hR⟩ : ∃ R, rs (tl all) = R := ⟨_, rfl⟩
  rw [show Utf.rs all.data.toList = R from hR] at hrc hir ⊢
  rw [hR] at hrl hclk
  (refine Ga ?_)
  refine W_loop (α := Mo × List Int × Value × (Option Addr × Nat)) (fun x => [(0, x.2.2.1), (4, .pointer (some ⟨bo, 0, none⟩)), (7, .slice x.2.2.2.1 x.2.1.length x.2.2.2.2)])
    (fun x A => x.1.k = 1 ∧ (∃ ol, OwnO C.heap.size A x.2.2.1 ol ∧ ol ++ chunks x.2.1.length x.1 x.2.1 = chunks R.length o R ∧ ol.length + x.2.1.length ≤ R.length) ∧ Ints C .i32 (.slice x.2.2.2.1 x.2.1.length x.2.2.2.2) x.2.1 ∧ x.2.1.length ≤ x.2.2.2.2 ∧ (∀ b off sp, x.2.2.2.1 = some ⟨b, off, sp⟩ → b ≠ bo) ∧ Blk A bo (ocs x.1) 31 ∧ x.1.id.2 + x.2.1.length ≤ 9007199254740992 ∧ 1 ≤ x.1.id.2 ∧ Kp bo C A) (fun x _ => x.2.1.length)
    (o, R, .slice none 0 0, (ra, rc)) ⟨hk, ⟨[], OwnO.nil _ _, rfl, by simp⟩, hir, hrc, fun b off sp e => by rw [hra] at e; cases e; omega, k0C, hclk, h1, Kp.refl _ _⟩ ⟨rfl, rfl, rfl, trivial⟩ ?_
  rintro J ⟨o', r, ov, a, c⟩ A ⟨hk', ⟨ol, hol, heq, hlen⟩, hir', hrc', hab, kA, hcl, hc1, hkp⟩
  dsimp only at hk' hol heq hlen hir' hrc' hab kA hcl hc1 ⊢
  by_cases hz0 : r.length = 0
  · have hr0 : r = [] := List.eq_nil_of_length_eq_zero hz0
    rw [hr0, chunks_nil, List.append_nil] at heq
    obtain ⟨y1, y2, y3, rfl⟩ := own_slice hol
    (refine Ga ?_)
    (apply retQ1; (focus rfl))
    rw [heq] at hol
    exact ⟨own_low' hol (by omega), by rw [← hbo]; exact (hbo ▸ bC).trans ((hbo ▸ hkp.low (by omega)))⟩
  · have hr0 : r ≠ [] := fun e => hz0 (by rw [e]; rfl)
    have hp := List.length_pos_iff.2 hr0
    rw [chunks_step o' hr0] at heq
    obtain ⟨m, hm⟩ : ∃ m, min r.length 4096 = m := ⟨_, rfl⟩
    rw [hm] at heq
    have hm1 : min (r.length : Int) 4096 = (m : Int) := by omega
    have htk : r.take 4096 = r.take m := by
      rw [← hm]
      rcases Nat.le_total r.length 4096 with h | h
      · rw [Nat.min_eq_left h, List.take_of_length_le h, List.take_of_length_le (Nat.le_refl _)]
      · rw [Nat.min_eq_right h]
    have hdk : r.drop 4096 = r.drop m := by
      rw [← hm]
      rcases Nat.le_total r.length 4096 with h | h
      · rw [Nat.min_eq_left h, List.drop_of_length_le h, List.drop_of_length_le (Nat.le_refl _)]
      · rw [Nat.min_eq_right h]
    rw [htk, hdk] at heq
    have hirA := hkp.ints hir' hab
    have kU := kA
    unfold ocs at kU
    have lU := kU.lt
    obtain ⟨y1, y2, y3, rfl⟩ := own_slice hol
    (refine Ga ?_)
    rw [hm1]
    apply Lst_runes (zs := r.take m)
    focus rfl
    focus rfl
    focus rfl
    focus rfl
    focus exact Ints.sub hirA hrc' (l := 0) (h := m) (Nat.zero_le _) (by omega)
    focus rfl
    (refine Ga ?_)
    refine Lst_abs (fun D => Kp bo C D ∧ OwnO C.heap.size D (.slice y1 y2 y3) ol ∧ Blk D bo (ocs { o' with tx := runesBytes (r.take m) }) 31) ⟨Kp.put hkp _, own_put hol l0C _, by unfold ocs; exact (by (repeat (first | assumption | (apply Blk.below (hb := hb1); rotate_left; (focus ((try simp only [Sx.sizes]); omega)); rotate_right) | (apply Blk.below (hb := hb2); rotate_left; (focus ((try simp only [Sx.sizes]); omega)); rotate_right) | (apply Blk.below (hb := hb3); rotate_left; (focus ((try simp only [Sx.sizes]); omega)); rotate_right) | (apply Blk.below (hb := hb4); rotate_left; (focus ((try simp only [Sx.sizes]); omega)); rotate_right) | (apply Blk.below (hb := hb5); rotate_left; (focus ((try simp only [Sx.sizes]); omega)); rotate_right) | (apply Blk.below (hb := hb6); rotate_left; (focus ((try simp only [Sx.sizes]); omega)); rotate_right) | (apply Blk.below (hb := hb7); rotate_left; (focus ((try simp only [Sx.sizes]); omega)); rotate_right) | (apply Blk.below (hb := hb8); rotate_left; (focus ((try simp only [Sx.sizes]); omega)); rotate_right) | (apply Blk.below (hb := hb9); rotate_left; (focus ((try simp only [Sx.sizes]); omega)); rotate_right) | exact Blk.newE (by first | rfl | ((try simp only [Sx.sizes]); first | done | omega)) _ _ | exact Blk.put_same (by (try simp only [Sx.sizes]); first | done | omega) _ _ | (apply Blk.put_ne; (focus omega)) | apply Blk.alloc | apply Blk.drew)); done)⟩ ?_
    rintro D ⟨hkD, holD, kD⟩
    have kV := kD
    unfold ocs at kV
    dsimp only at kV
    (refine Ga ?_)
    (apply Lst_slit; (focus rfl); (focus rfl); (focus rfl); (focus rfl); (focus rfl); (focus rfl); (focus rfl); (focus rfl); (focus rfl); (focus (repeat (first | apply FillO.nil | (apply FillO.cons; (focus constructor); (focus rfl); (focus rfl); (focus (repeat constructor)))))); (focus ((try simp only [Sx.sizes]); first | done | rfl)); (focus rfl))
    refine Lst_abs (fun E => Below D.heap.size D E ∧ Blk E D.heap.size (ocs { o' with tx := runesBytes (r.take m) }) 31) ⟨Bel, by unfold ocs; exact (by (repeat (first | assumption | (apply Blk.below (hb := hb1); rotate_left; (focus ((try simp only [Sx.sizes]); omega)); rotate_right) | (apply Blk.below (hb := hb2); rotate_left; (focus ((try simp only [Sx.sizes]); omega)); rotate_right) | (apply Blk.below (hb := hb3); rotate_left; (focus ((try simp only [Sx.sizes]); omega)); rotate_right) | (apply Blk.below (hb := hb4); rotate_left; (focus ((try simp only [Sx.sizes]); omega)); rotate_right) | (apply Blk.below (hb := hb5); rotate_left; (focus ((try simp only [Sx.sizes]); omega)); rotate_right) | (apply Blk.below (hb := hb6); rotate_left; (focus ((try simp only [Sx.sizes]); omega)); rotate_right) | (apply Blk.below (hb := hb7); rotate_left; (focus ((try simp only [Sx.sizes]); omega)); rotate_right) | (apply Blk.below (hb := hb8); rotate_left; (focus ((try simp only [Sx.sizes]); omega)); rotate_right) | (apply Blk.below (hb := hb9); rotate_left; (focus ((try simp only [Sx.sizes]); omega)); rotate_right) | exact Blk.newE (by first | rfl | ((try simp only [Sx.sizes]); first | done | omega)) _ _ | exact Blk.put_same (by (try simp only [Sx.sizes]); first | done | omega) _ _ | (apply Blk.put_ne; (focus omega)) | apply Blk.alloc | apply Blk.drew)); done)⟩ ?_
    rintro E ⟨hE, kE⟩
    have holE : OwnO C.heap.size E (.slice y1 y2 y3) ol := own_below holD hE (Nat.le_refl _)
    apply Lst_appendO (hown := holE) (hy := one_row kE)
    focus (simp only [List.length_singleton]; omega)
    focus exact Nat.le_trans hkD.size hE.size
    focus rfl
    focus rfl
    focus rfl
    intro v' G hoG hG
    have kG := (kD.below hE kD.lt).below hG l0C
    have hkG : Kp bo C G := (hkD.below (hE.mono hkD.size)).below hG
    have lG := kG.lt
    unfold ocs at kG
    dsimp only at kG
    obtain ⟨x1, x2, x3, rfl⟩ := own_slice hoG
    have hcast : ((o'.id.2 + m - 1 : Nat) : Int) = (o'.id.2 : Int) + (m : Int) - 1 := by omega
    clear kD kV kE kU hE hG hkD holD holE
    (refine Ga ?_)
    refine rndQ_n (α := Mo × List Int × Value × (Option Addr × Nat)) ({ o' with id := (o'.id.1, o'.id.2 + m), l := (o'.id.1, o'.id.2 + m - 1), tx := runesBytes (r.take m) }, r.drop m, .slice x1 x2 x3, (if c = m then a else a.map (·.add (m * 1)), c - m))
      ⟨hk', ⟨_, own_put (own_put hoG l0C _) l0C _, by rw [List.append_assoc]; exact heq, by rw [List.length_append, List.length_singleton, List.length_drop]; omega⟩, ?_, by dsimp only; rw [List.length_drop]; omega, ?_, ?_, by dsimp only; rw [List.length_drop]; omega, by dsimp only; omega, Kp.put (Kp.put hkG _) _⟩ ⟨rfl, rfl, ?_, trivial⟩ (by dsimp only; rw [List.length_drop]; omega)
    · have := Ints.sub hir' hrc' (l := m) (h := r.length) (by omega) (Nat.le_refl _)
      rw [List.take_length] at this
      unfold sliced at this
      dsimp only
      rw [List.length_drop]
      exact this
    · intro b off sp e
      dsimp only at e
      split at e
      · exact hab b off sp e
      · cases a with
        | none => cases e
        | some g =>
          have e1 : g.add (m * 1) = ⟨b, off, sp⟩ := Option.some.inj e
          have e2 : g.block = b := by
            have := congrArg Addr.block e1
            unfold Addr.add at this
            split at this <;> exact this
          rw [← e2]
          exact hab g.block g.off g.spot rfl
    · unfold ocs
      dsimp only
      rw [hcast]
      exact (by (repeat (first | assumption | (apply Blk.below (hb := hb1); rotate_left; (focus ((try simp only [Sx.sizes]); omega)); rotate_right) | (apply Blk.below (hb := hb2); rotate_left; (focus ((try simp only [Sx.sizes]); omega)); rotate_right) | (apply Blk.below (hb := hb3); rotate_left; (focus ((try simp only [Sx.sizes]); omega)); rotate_right) | (apply Blk.below (hb := hb4); rotate_left; (focus ((try simp only [Sx.sizes]); omega)); rotate_right) | (apply Blk.below (hb := hb5); rotate_left; (focus ((try simp only [Sx.sizes]); omega)); rotate_right) | (apply Blk.below (hb := hb6); rotate_left; (focus ((try simp only [Sx.sizes]); omega)); rotate_right) | (apply Blk.below (hb := hb7); rotate_left; (focus ((try simp only [Sx.sizes]); omega)); rotate_right) | (apply Blk.below (hb := hb8); rotate_left; (focus ((try simp only [Sx.sizes]); omega)); rotate_right) | (apply Blk.below (hb := hb9); rotate_left; (focus ((try simp only [Sx.sizes]); omega)); rotate_right) | exact Blk.newE (by first | rfl | ((try simp only [Sx.sizes]); first | done | omega)) _ _ | exact Blk.put_same (by (try simp only [Sx.sizes]); first | done | omega) _ _ | (apply Blk.put_ne; (focus omega)) | apply Blk.alloc | apply Blk.drew)); done)
    · show sliced a m r.length c 1 = _
      unfold sliced
      dsimp only
      rw [List.length_drop]
end
end Op
end Go.Proofs.YtifkedhbelflkaaDoor
