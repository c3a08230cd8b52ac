/- Pieces of a text, plainly; the laws' light and sameAll. -/
import Derived.Test.YtifkedhbelflkaaDoorOqOpJ
namespace Go.Proofs.YtifkedhbelflkaaDoor
set_option maxRecDepth 100000
namespace Op
open Go Go.RowKit Sx Tl Val
open Utf (rs tl Tabs cutS)
theorem rs_cutN (s : ByteArray) (a b : Nat) : rs (tl (cutS s (a : Int) (b : Int))) = ((rs (tl s)).take b).drop a := by
  rw [(Utf.rs_cut s a b).2]
  rfl
theorem cut_len {o : Mo} (_ : OkT o) {a b : Nat} (hb : b ≤ (rs (tl o.tx)).length) : (rs (tl (cutO o a b).tx)).length = b - a := by
  show (rs (tl (cutS o.tx a b))).length = _
  rw [rs_cutN, List.length_drop, List.length_take]
  omega
theorem nm_right {k : Id} (h : rightId k = true) : nm k = true := by unfold nm; rw [h, Bool.or_true]
theorem right_of {c k : Nat} (h1 : 1 ≤ c ∧ c ≤ 9007199254740991) (h2 : 1 ≤ k ∧ k ≤ 9007199254740991) : rightId (c, k) = true := by
  unfold rightId num
  rw [decide_eq_true h1, decide_eq_true h2]
  rfl
/-- A piece of a text that is taken is taken. -/
theorem cut_ok {o : Mo} (h : OkT o) {a b : Nat} (hab : a < b) (hb : b ≤ (rs (tl o.tx)).length) : OkT (cutO o a b) := by
  obtain ⟨hc, hk⟩ := right_hi h.id
  have hl := cut_len h (a := a) hb
  have hhi := h.hi
  have h2 := h.n2
  have hid : rightId (o.id.1, o.id.2 + a) = true := right_of hc ⟨by omega, by omega⟩
  refine ⟨h.k, hid, ?_, h.r, (Utf.rs_cut o.tx a b).1, by rw [hl]; omega, by rw [hl]; omega, by rw [hl]; show o.id.2 + a + _ ≤ _; omega, h.st, h.v, h.key, h.par, h.fr, h.til, ?_, ?_⟩
  · show nm (if a = 0 then o.l else (o.id.1, o.id.2 + a - 1)) = true
    split
    · exact h.l
    · exact nm_right (right_of hc ⟨by omega, by omega⟩)
  · rw [hl]
    show ¬ ((if a = 0 then o.l else (o.id.1, o.id.2 + a - 1)).1 = o.id.1 ∧ o.id.2 + a ≤ (if a = 0 then o.l else (o.id.1, o.id.2 + a - 1)).2 ∧ (if a = 0 then o.l else (o.id.1, o.id.2 + a - 1)).2 < o.id.2 + a + (b - a))
    split
    · rename_i h0
      subst h0
      exact fun ⟨e1, e2, e3⟩ => h.fl ⟨e1, by omega, by omega⟩
    · dsimp only
      omega
  · rw [hl]
    exact fun ⟨e1, e2, e3⟩ => h.frr ⟨e1, by have : o.id.2 + a ≤ o.r.2 := e2; omega, by have : o.r.2 < o.id.2 + a + (b - a) := e3; omega⟩
theorem len_ok {o : Mo} (h : OkT o) : len o = (rs (tl o.tx)).length := by unfold len; rw [if_pos h.k]
theorem fol_cut {o : Mo} (h : OkT o) {a b c : Nat} (hab : a < b) (hbc : b < c) (hc : c ≤ (rs (tl o.tx)).length) : folO (cutO o a b) (cutO o b c) = true := by
  have hl := cut_len h (a := a) (b := b) (by omega)
  have h1 := len_ok (cut_ok h hab (b := b) (by omega))
  rw [hl] at h1
  unfold folO
  rw [h1]
  have e1 : (cutO o a b).id = (o.id.1, o.id.2 + a) := rfl
  have e2 : (cutO o b c).id = (o.id.1, o.id.2 + b) := rfl
  have e3 : (cutO o b c).l = (o.id.1, o.id.2 + b - 1) := if_neg (by omega)
  rw [e1, e2, e3, decide_eq_true (show (cutO o a b).k = 1 from h.k), decide_eq_true (show (cutO o b c).k = 1 from h.k), decide_eq_true (show (o.id.1, o.id.2 + a).1 = (o.id.1, o.id.2 + b).1 from rfl), decide_eq_true (show (o.id.1, o.id.2 + b).2 = (o.id.1, o.id.2 + a).2 + (b - a) by dsimp only; omega), decide_eq_true (show (o.id.1, o.id.2 + b - 1) = ((o.id.1, o.id.2 + a).1, (o.id.1, o.id.2 + a).2 + (b - a) - 1) from Prod.ext rfl (by dsimp only; omega)), decide_eq_true (show (cutO o a b).r = (cutO o b c).r from rfl)]
  rfl
theorem chunks_one {o : Mo} {r : List Int} (h0 : r ≠ []) (h : r.length ≤ 4096) : chunks r.length o r = [{ o with tx := runesBytes r }] := by
  rw [chunks_step o h0, List.drop_of_length_le h, List.take_of_length_le h, chunks_nil]
theorem text_eq {s : ByteArray} (h : Lib.validD (tl s) = true) : runesBytes (rs (tl s)) = s := Utf.bytes_ext (by
  rw [Utf.runesBytes_eq _ (Utf.rs_good _)]
  exact Utf.enc_rs h)
/-- Two pieces of a text, put together. -/
theorem two_ok {o : Mo} (h : OkT o) {at' : Nat} (h0 : 0 < at') (h1 : at' < (rs (tl o.tx)).length) : Chain [cutO o 0 at', cutO o at' (rs (tl o.tx)).length] ∧ runesS [cutO o 0 at', cutO o at' (rs (tl o.tx)).length] = rs (tl o.tx) ∧ chunks (rs (tl o.tx)).length (cutO o 0 at') (rs (tl o.tx)) = [o] := by
  refine ⟨⟨fun x hx => ?_, fun i hi => ?_⟩, ?_, ?_⟩
  · rcases List.mem_cons.1 hx with rfl | hx
    · exact cut_ok h h0 (by omega)
    · rw [List.mem_singleton.1 hx]
      exact cut_ok h h1 (Nat.le_refl _)
  · have : i = 0 := by simp at hi; omega
    subst this
    exact fol_cut h h0 h1 (Nat.le_refl _)
  · unfold runesS
    rw [List.flatMap_cons, List.flatMap_cons, List.flatMap_nil, List.append_nil]
    show rs (tl (cutS o.tx ((0 : Nat) : Int) at')) ++ rs (tl (cutS o.tx at' _)) = _
    rw [rs_cutN, rs_cutN, List.drop_zero, List.take_length, List.take_append_drop]
  · rw [chunks_one (fun e => by rw [e] at h1; exact absurd h1 (Nat.not_lt_zero _)) h.n2, text_eq h.val]
    rfl
section
attribute [local irreducible] RnS
attribute [local irreducible] W Lst Qst Pu seqQ blkQ rndQ cutQ retQ Does Enters IntKind.wrap bits sb World.alloc World.putObj Blk
set_option maxHeartbeats 2000000 in
theorem c_light8 (o : Mo) (w : World) : Does Tryd.prog 5 #[.agg (ocs o).toArray] w fun v w' => (∃ b, v = .bool b ∧ (b = true → o.tx.size ≤ 20000 ∧ o.key.size ≤ 200 ∧ o.v.s.size ≤ 6000)) ∧ Below w.heap.size w w' := by
  refine Does_of (args := [.agg (ocs o).toArray]) Tryd.func5 (by kernel_rfl) rfl rfl rfl rfl rfl ?_
  unfold ocs
  by_cases h1 : o.tx.size ≤ 20000
  · by_cases h2 : o.key.size ≤ 200
    · by_cases h3 : o.v.s.size ≤ 6000
      · (refine Ga ?_)
        (apply retQ1; (focus rfl))
        exact ⟨⟨_, rfl, fun _ => ⟨h1, h2, h3⟩⟩, Bel⟩
      · (refine Ga ?_)
        (apply retQ1; (focus rfl))
        exact ⟨⟨_, rfl, fun h => (by cases h)⟩, Bel⟩
    · (refine Ga ?_)
      (apply retQ1; (focus rfl))
      exact ⟨⟨_, rfl, fun h => (by cases h)⟩, Bel⟩
  · (refine Ga ?_)
    (apply retQ1; (focus rfl))
    exact ⟨⟨_, rfl, fun h => (by cases h)⟩, Bel⟩
set_option maxHeartbeats 2000000 in
theorem c_sameAll8 (l : List Mo) (a b : Option Addr) (c d : Nat) (hl : l.length ≤ 1000000) (hv : ∀ o ∈ l, o.v = ⟨0, 0, 0, ⟨#[]⟩⟩) (w : World) (hx : SRows w 22 (.slice a l.length c) (l.map ocs)) (hy : SRows w 22 (.slice b l.length d) (l.map ocs)) :
    Does Tryd.prog 10 #[.slice a l.length c, .slice b l.length d] w fun v w' => v = .bool true ∧ Below w.heap.size w w' := by
  refine Does_of (args := [.slice a l.length c, .slice b l.length d]) Tryd.func10 (by kernel_rfl) rfl rfl rfl rfl rfl ?_
  (refine Ga ?_)
  refine W_loop (α := Nat) (fun k => [(0, .slice a l.length c), (1, .slice b l.length d), (5, .int .i64 (k : Int))]) (fun k A => k ≤ l.length ∧ Below w.heap.size w A) (fun k _ => l.length - k) 0 ⟨Nat.zero_le _, Bel⟩ ⟨rfl, rfl, rfl, trivial⟩ ?_
  rintro J k A ⟨hk, bA⟩
  by_cases hkl : k < l.length
  · obtain ⟨g1, o1, rfl, _, hc1⟩ := (SRows.below hx bA (Nat.le_refl _)).at (i := k) (by rw [List.length_map]; exact hkl)
    obtain ⟨g2, o2, rfl, _, hc2⟩ := (SRows.below hy bA (Nat.le_refl _)).at (i := k) (by rw [List.length_map]; exact hkl)
    rw [List.getElem_map] at hc1 hc2
    have hvk := hv _ (List.getElem_mem hkl)
    generalize l[k] = ok at *
    have hft : ok.v.Fit := by rw [hvk]; exact zero_fit
    (refine Ga ?_)
    refine W_drawS 10 (fun Z => Below A.heap.size A Z) rfl rfl ?_
    have hS := Below.drew (Below.refl A.heap.size A)
    generalize A.drew = Z at *
    refine S_takeV 0 9 rfl (by kernel_rfl) (by repeat (first | exact retQ_p | apply seqQ_p | apply blkQ_p | apply rndQ_p | apply cutQ_p)) hS ?_
    (refine Qb ?_)
    refine S_takeV 1 8 rfl (by kernel_rfl) (by repeat (first | exact retQ_p | apply seqQ_p | apply blkQ_p | apply rndQ_p | apply cutQ_p)) hS ?_
    (refine Qb ?_)
    refine S_takeV 2 7 rfl (by kernel_rfl) (by repeat (first | exact retQ_p | apply seqQ_p | apply blkQ_p | apply rndQ_p | apply cutQ_p)) hS ?_
    apply Qst_pu
    · apply P_idxm (j := k) (sz := 22)
      focus rfl
      focus rfl
      focus rfl
      focus rfl
      focus rfl
      focus omega
    focus rfl
    (refine Qb ?_)
    refine S_takeV 3 6 rfl (by kernel_rfl) (by repeat (first | exact retQ_p | apply seqQ_p | apply blkQ_p | apply rndQ_p | apply cutQ_p)) hS ?_
    apply Qst_loadS (cs := ocs ok)
    focus rfl
    focus rfl
    focus rfl
    focus rfl
    focus rfl
    focus exact fun A9 hA9 j v hj => cell_below hA9 (hc1 j v hj)
    focus rfl
    (refine Qb ?_)
    refine S_takeV 4 5 rfl (by kernel_rfl) (by repeat (first | exact retQ_p | apply seqQ_p | apply blkQ_p | apply rndQ_p | apply cutQ_p)) hS ?_
    (refine Qb ?_)
    refine S_takeV 5 4 rfl (by kernel_rfl) (by repeat (first | exact retQ_p | apply seqQ_p | apply blkQ_p | apply rndQ_p | apply cutQ_p)) hS ?_
    (refine Qb ?_)
    refine S_takeV 6 3 rfl (by kernel_rfl) (by repeat (first | exact retQ_p | apply seqQ_p | apply blkQ_p | apply rndQ_p | apply cutQ_p)) hS ?_
    apply Qst_pu
    · apply P_idxm (j := k) (sz := 22)
      focus rfl
      focus rfl
      focus rfl
      focus rfl
      focus rfl
      focus omega
    focus rfl
    (refine Qb ?_)
    refine S_takeV 7 2 rfl (by kernel_rfl) (by repeat (first | exact retQ_p | apply seqQ_p | apply blkQ_p | apply rndQ_p | apply cutQ_p)) hS ?_
    apply Qst_loadS (cs := ocs ok)
    focus rfl
    focus rfl
    focus rfl
    focus rfl
    focus rfl
    focus exact fun A9 hA9 j v hj => cell_below hA9 (hc2 j v hj)
    focus rfl
    (refine Qb ?_)
    refine S_any [8] 1 rfl (by kernel_rfl) (all1 ?_)
    (apply Lst_call; (focus rfl); (focus rfl))
    refine (o_Same ok ok hft hft Z).mono ?_
    rintro v V ⟨rfl, hV⟩
    rw [sameO_self hvk]
    apply Lst_nil
    apply rnQ_n
    have hS2 := hS.trans (hV.mono hS.size)
    refine ⟨hS2, ?_⟩
    clear hS hV
    have hS := hS2
    refine S_takeV 9 0 rfl (by kernel_rfl) (by repeat (first | exact retQ_p | apply seqQ_p | apply blkQ_p | apply rndQ_p | apply cutQ_p)) hS ?_
    (refine Qb ?_)
    refine S_done (by kernel_rfl) ?_
    (refine Ga ?_)
    refine rndQ_n (α := Nat) (k + 1) ⟨hkl, bA.trans (hS.mono bA.size)⟩ ⟨rfl, rfl, ?_, trivial⟩ (by omega)
    exact congrArg (Value.int .i64) (by omega)
  · (refine Ga ?_)
    (apply retQ1; (focus rfl))
    exact ⟨rfl, bA⟩
end
end Op
end Go.Proofs.YtifkedhbelflkaaDoor
