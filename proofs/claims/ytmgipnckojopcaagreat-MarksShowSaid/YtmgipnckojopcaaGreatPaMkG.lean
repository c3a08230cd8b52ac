/- Marks: the reference's At. -/
import Derived.Test.YtmgipnckojopcaaGreatPaMkL
namespace Go.Proofs.YtmgipnckojopcaaGreat
set_option maxRecDepth 100000
namespace Sx
open Go Go.RowKit
section rules
variable {P : Program} {rd : Option Nat} {n : Nat} {ops : Array Oper} {Q : Post} {rest : List Oper} {F : Fr} {ds : List Deferred} {w : World} {ty : TypeId} {pos : String} {after : Array Edge}
/-- A struct written whole into the midst of a block. -/
theorem Lst_storeM {x y : Operand} {t e : TypeId} {i : TypeInfo} {b off : Nat} {l vs : List Value} (hx : ev F x = .pointer (some ⟨b, off, none⟩)) (hy : ev F y = .agg vs.toArray) (hi : P.info? t = some i) (hs : i.size = vs.length) (h1 : ∀ v ∈ vs, v.oneCell' = true) (hb : Blk w b l e) (hl : off + vs.length ≤ l.length)
    (h : Lst P rd n ops Q rest F ds (w.putObj b (.cells (l.take off ++ vs ++ l.drop (off + vs.length)).toArray e))) : Lst P rd n ops Q (⟨none, .store t x y, ty, pos, after, none⟩ :: rest) F ds w :=
  Lst_unit rfl (by
    have := run_storeCells_at (P := P) b off e vs 0 l.toArray w hb (by simpa using hl) h1
    have hsz : (sizeOf t).run P w = .ok vs.length w := by simp [sizeOf, typeInfo, hi, hs]
    simp only [Nat.add_zero] at this
    rw [show (l.toArray.toList.take off ++ vs ++ l.toArray.toList.drop (off + vs.length)) = l.take off ++ vs ++ l.drop (off + vs.length) from rfl] at this
    rw [hb.setRow] at this
    have hcs : (Value.agg vs.toArray).cells.size = vs.length := by simp [Value.cells]
    have hcl : (Value.agg vs.toArray).cells.toList = vs := by simp [Value.cells]
    simp [execOp, hx, hy, Instr.storeAt, Instr.sureAddr, storeVar, hsz, hcs, hcl, this]) rfl h
end rules
theorem flat_row {α : Type} {sz : Nat} {c : List α} (hc : c.length = sz) : ∀ (ls : List (List α)) (k : Nat), k < ls.length → (∀ l ∈ ls, l.length = sz) → (ls.set k c).flatten = ls.flatten.take (k * sz) ++ c ++ ls.flatten.drop (k * sz + sz)
  | l :: ls, 0, _, h => by
    have := h l (by simp)
    rw [List.set_cons_zero, List.flatten_cons, List.flatten_cons, Nat.zero_mul, List.take_zero, List.nil_append, Nat.zero_add, ← this, List.drop_left]
  | l :: ls, k + 1, hk, h => by
    have hl := h l (by simp)
    have ih := flat_row hc ls k (by simpa using hk) (fun l' h' => h l' (by simp [h']))
    rw [List.set_cons_succ, List.flatten_cons, List.flatten_cons, ih, Nat.succ_mul, List.take_append, List.drop_append, hl, List.take_of_length_le (show l.length ≤ k * sz + sz by omega), List.drop_of_length_le (show l.length ≤ k * sz + sz + sz by omega), show k * sz + sz - sz = k * sz by omega, show k * sz + sz + sz - sz = k * sz + sz by omega, List.nil_append]
    simp only [List.append_assoc]
/-- A row of structs of one's own, with one of them turned. -/
theorem own_setR {w : World} {base e sz nn : Nat} {v : Value} {ls : List (List Value)} (h : w.ownsRow base e sz v nn ls.flatten) (hs : ∀ l ∈ ls, l.length = sz) (h1 : 1 ≤ sz) {k : Nat} (hk : k < ls.length) :
    ∃ g cap l, v = .slice (some ⟨g, 0, none⟩) nn cap ∧ nn ≤ cap ∧ base ≤ g ∧ Blk w g l e ∧ k * sz + sz ≤ l.length ∧ ∀ c : List Value, c.length = sz → (w.putObj g (.cells (l.take (k * sz) ++ c ++ l.drop (k * sz + c.length)).toArray e)).ownsRow base e sz v nn (ls.set k c).flatten := by
  obtain ⟨hl, h⟩ := h
  rw [flat_len ls hs] at hl
  have hn : ls.length = nn := Nat.eq_of_mul_eq_mul_right (by omega) hl
  have hk1 : k * sz + sz ≤ nn * sz := by rw [← Nat.succ_mul]; exact Nat.mul_le_mul_right _ (by omega)
  rcases h with ⟨rfl, hx⟩ | ⟨g, cap, cur, rfl, hb, hg, hc, hm, hz, ht⟩
  · omega
  · have hcl : cur.toList.length = cap * sz := by rw [Array.length_toList]; exact hz
    have hle : nn * sz ≤ cap * sz := Nat.mul_le_mul_right _ hc
    have hset : ∀ c : List Value, c.length = sz → ∀ l' ∈ ls.set k c, l'.length = sz := fun c hc' l' hl' => by
      rcases List.mem_or_eq_of_mem_set hl' with h | rfl
      · exact hs _ h
      · exact hc'
    refine ⟨g, cap, cur.toList, rfl, hc, hb, ?_, by omega, fun c hc' => ⟨by rw [flat_len _ (hset c hc'), List.length_set, hn], .inr ⟨g, cap, _, rfl, hb, Blk.put_same (lt_of_some hg) _ _, hc, hm, ?_, ?_⟩⟩⟩
    · unfold Blk
      rw [hg]
    · rw [List.size_toArray, List.length_append, List.length_append, List.length_take, List.length_drop]
      omega
    · rw [flat_row hc' ls k hk hs, hc', ← ht]
      rw [List.take_append, List.take_append, List.take_take, List.take_take, List.length_append, List.length_take, List.drop_take, hc', hcl]
      congr 1
      · congr 1
        · congr 1
          omega
        · exact List.take_of_length_le (by omega)
      · congr 1
        omega
theorem own_setR0 {w : World} {base e sz nn : Nat} {v : Value} {ls : List (List Value)} (h : w.ownsRow base e sz v nn ls.flatten) (hs : ∀ l ∈ ls, l.length = sz) (h1 : 1 ≤ sz) {k : Nat} (hk : k < ls.length) :
    ∃ g cap l, v = .slice (some ⟨g, 0, none⟩) nn cap ∧ nn ≤ cap ∧ base ≤ g ∧ Blk w g l e ∧ 0 + k * sz + sz ≤ l.length ∧ ∀ c : List Value, c.length = sz → (w.putObj g (.cells (l.take (0 + k * sz) ++ c ++ l.drop (0 + k * sz + c.length)).toArray e)).ownsRow base e sz v nn (ls.set k c).flatten := by
  rw [Nat.zero_add]
  exact own_setR h hs h1 hk
end Sx
namespace Mk
open Go Go.RowKit Sx Tl Sq Val
theorem rins_at {o : Mo} : ∀ {b : List Mo} {n : Nat}, n ≤ b.length → (∀ j (h : j < b.length), j < n → cmpS b[j].key o.key < 0) → (∀ h : n < b.length, ¬ cmpS b[n].key o.key < 0) →
    rins b o = if h : n < b.length then (if b[n].key ≠ o.key then b.take n ++ o :: b.drop n else if mless b[n] o then b.set n o else b) else b.take n ++ o :: b.drop n
  | [], 0, _, _, _ => rfl
  | [], _ + 1, h, _, _ => absurd h (Nat.not_succ_le_zero _)
  | x :: b, 0, _, _, hge => by
    have h := hge (Nat.succ_pos _)
    have e : (x :: b)[0] = x := rfl
    rw [e] at h
    unfold rins
    rw [if_neg h, dif_pos (show 0 < (x :: b).length from Nat.succ_pos _)]
    rfl
  | x :: b, n + 1, hn, hlt, hge => by
    have h0 := hlt 0 (Nat.succ_pos _) (Nat.succ_pos _)
    have e : (x :: b)[0] = x := rfl
    rw [e] at h0
    have ih := rins_at (o := o) (b := b) (n := n) (by simpa using hn) (fun j h hj => by
      have := hlt (j + 1) (by simpa using h) (by omega)
      rwa [List.getElem_cons_succ] at this) (fun h => by
      have := hge (by simpa using h)
      rwa [List.getElem_cons_succ] at this)
    unfold rins
    rw [if_pos h0, ih]
    by_cases hb : n < b.length
    · rw [dif_pos hb, dif_pos (show n + 1 < (x :: b).length by simpa using hb)]
      simp only [List.getElem_cons_succ, List.take_succ_cons, List.drop_succ_cons, List.set_cons_succ]
      split
      · rfl
      · split <;> rfl
    · rw [dif_neg hb, dif_neg (show ¬ n + 1 < (x :: b).length by simpa using hb)]
      rfl
/-- While the rest is shifted. -/
theorem shift_step {α : Type} {b : List α} {k : Nat} (x : α) (hk : k < b.length) : (b.take (k + 1) ++ x :: b.drop (k + 1)).set (k + 1) b[k] = b.take k ++ b[k] :: b.drop k := by
  have h1 : (b.take (k + 1)).length = k + 1 := by rw [List.length_take]; omega
  rw [List.set_append_right _ _ (by omega), h1, Nat.sub_self, List.set_cons_zero, List.take_succ_eq_append_getElem hk, List.append_assoc]
  congr 1
  rw [List.drop_eq_getElem_cons hk]
  rfl
theorem shift_set {α : Type} {b : List α} {k : Nat} (x y : α) (hk : k ≤ b.length) : (b.take k ++ x :: b.drop k).set k y = b.take k ++ y :: b.drop k := by
  have h1 : (b.take k).length = k := by rw [List.length_take]; omega
  rw [List.set_append_right _ _ (by omega), h1, Nat.sub_self, List.set_cons_zero]
theorem off_place {t : Fo} {place : Int} {o : Mo} (h : place < 0 ∨ (t.sz : Int) ≤ place) : onV t place o = false := by
  unfold onV overV
  have h2 := gap_le (t := t) (a := o.to)
  rcases h with h | h
  · rw [decide_eq_false (show ¬ (((if (gapV t o.fr).2 = true ∧ (gapV t o.to).2 = true ∧ (gapV t o.fr).1 < (gapV t o.to).1 then ((gapV t o.fr).1, (gapV t o.to).1) else (0, 0)).1 : Nat) : Int) ≤ place by omega)]
    simp
  · have : ¬ place < (((if (gapV t o.fr).2 = true ∧ (gapV t o.to).2 = true ∧ (gapV t o.fr).1 < (gapV t o.to).1 then ((gapV t o.fr).1, (gapV t o.to).1) else (0, 0)).2 : Nat) : Int) := by
      split <;> dsimp only <;> omega
    rw [decide_eq_false this]
    simp
theorem ocs_one (l : List Mo) : ∀ u ∈ (l.map ocs).flatten, u.oneCell' = true := fun u hu => by
  obtain ⟨r, hr, hu⟩ := List.mem_flatten.1 hu
  obtain ⟨o, _, rfl⟩ := List.mem_map.1 hr
  unfold ocs at hu
  simp only [List.mem_cons, List.not_mem_nil, or_false] at hu
  rcases hu with rfl | rfl | rfl | rfl | rfl | rfl | rfl | rfl | rfl | rfl | rfl | rfl | rfl | rfl | rfl | rfl | rfl | rfl | rfl | rfl | rfl | rfl <;> rfl
section
attribute [local irreducible] RnS
attribute [local irreducible] W Lst Qst Pu seqQ blkQ rndQ cutQ retQ Does Enters IntKind.wrap bits sb World.alloc World.putObj Blk
set_option maxHeartbeats 4000000 in
theorem r_At11 {q : Nat} {G : Nat → Prop} {t : Fo} {w : World} (ls : List Mo) (a : Option Addr) (c : Nat) (place : Int) (hs : t.sz ≤ 1000000000 - 1) (hl : ls.length ≤ 1000000) (hr : SRows w 22 (.slice a ls.length c) (ls.map ocs)) (h : RefAt w q G t) :
    Does Tryz.prog 12 #[.pointer (some ⟨q, 0, none⟩), .slice a ls.length c, .int .i64 place] w fun v w' => OwnM w.heap.size w' v (rtell ((ls.filter (onV t place)).foldl rins [])) ∧ Below w.heap.size w w' := by
  refine Does_of (args := [.pointer (some ⟨q, 0, none⟩), .slice a ls.length c, .int .i64 place]) Tryz.func12 (by kernel_rfl) rfl rfl rfl rfl rfl ?_
  (refine Ga ?_)
  refine W_loop (α := Nat × Value) (fun x => [(0, .pointer (some ⟨q, 0, none⟩)), (1, .slice a ls.length c), (2, .int .i64 place), (7, x.2), (8, .int .i64 (x.1 : Int))])
    (fun x A => x.1 ≤ ls.length ∧ ∃ b : List Mo, b = ((ls.take x.1).filter (onV t place)).foldl rins [] ∧ b.length ≤ x.1 ∧ A.ownsRow w.heap.size 47 22 x.2 b.length (b.map ocs).flatten ∧ Below w.heap.size w A) (fun x _ => ls.length - x.1) (0, .slice none 0 0) ⟨Nat.zero_le _, [], rfl, Nat.le_refl _, ⟨rfl, .inl ⟨rfl, rfl⟩⟩, Below.refl _ _⟩ ⟨rfl, rfl, rfl, rfl, rfl, trivial⟩ ?_
  rintro J ⟨i, v⟩ A ⟨hi, b, hbe, hbl, ho, hbA⟩
  dsimp only at hi hbe hbl ho hbA ⊢
  obtain ⟨v1, v3, rfl, hv3⟩ := own_form ho
  by_cases hil : i < ls.length
  · have hrA := SRows.below hr hbA (Nat.le_refl _)
    obtain ⟨g, off, rfl, _, hc⟩ := hrA.at (i := i) (by rw [List.length_map]; exact hil)
    rw [List.getElem_map] at hc
    have htk : ls.take (i + 1) = ls.take i ++ [ls[i]] := List.take_succ_eq_append_getElem hil
    have hgA := h.below hbA
    have hnx : ((ls.take (i + 1)).filter (onV t place)).foldl rins [] = if onV t place ls[i] then rins b ls[i] else b := by
      rw [htk, List.filter_append, List.foldl_append, ← hbe, List.filter_cons, List.filter_nil]
      split <;> rfl
    generalize hoi : ls[i] = o at *
    -- printed by gen_rat.py
    have hc2 := hc 2 (.int .i64 o.k) rfl
    by_cases h3 : o.k = 3
    · by_cases h0 : place < 0
      · have hon := off_place (t := t) (o := o) (.inl h0)
        (refine Ga ?_)
        apply Lst_pu
        · apply P_idxm (j := i) (sz := 22)
          focus rfl
          focus rfl
          focus rfl
          focus rfl
          focus rfl
          focus omega
        focus rfl
        (refine Ga ?_)
        refine rndQ_n (α := Nat × Value) (i + 1, .slice v1 b.length v3) ⟨hil, b, by rw [hnx, hon]; rfl, by dsimp only; omega, ho, hbA⟩ ⟨rfl, rfl, rfl, rfl, ?_, trivial⟩ (by dsimp only; omega)
        exact congrArg (Value.int .i64) (by dsimp only; omega)
      · (refine Ga ?_)
        apply Lst_pu
        · apply P_idxm (j := i) (sz := 22)
          focus rfl
          focus rfl
          focus rfl
          focus rfl
          focus rfl
          focus omega
        focus rfl
        (refine Ga ?_)
        (apply Lst_call; (focus rfl); (focus rfl))
        refine (r_Len hgA).mono ?_
        rintro v A' ⟨rfl, rfl⟩
        by_cases h1 : (t.sz : Int) ≤ place
        · have hon := off_place (t := t) (o := o) (.inr h1)
          (refine Ga ?_)
          refine rndQ_n (α := Nat × Value) (i + 1, .slice v1 b.length v3) ⟨hil, b, by rw [hnx, hon]; rfl, by dsimp only; omega, ho, hbA⟩ ⟨rfl, rfl, rfl, rfl, ?_, trivial⟩ (by dsimp only; omega)
          exact congrArg (Value.int .i64) (by dsimp only; omega)
        · (refine Ga ?_)
          apply Lst_pu
          · apply P_idxm (j := i) (sz := 22)
            focus rfl
            focus rfl
            focus rfl
            focus rfl
            focus rfl
            focus omega
          focus rfl
          apply Lst_loadS' (cs := ocs o)
          focus rfl
          focus rfl
          focus rfl
          focus rfl
          focus rfl
          focus exact hc
          focus rfl
          (refine Ga ?_)
          (apply Lst_call; (focus rfl); (focus rfl))
          refine (r_Over o hs hgA).mono ?_
          rintro v B ⟨rfl, hbB⟩
          have hoB := own_below ho hbB (Nat.le_refl _)
          have bB := hbA.trans (hbB.mono hbA.size)
          have hgB := hgA.below hbB
          have hrB := SRows.below hrA hbB (Nat.le_refl _)
          have on1 : onV t place o = (decide (o.k = 3) && (decide (((overV t o.fr o.to).1 : Int) ≤ place) && decide (place < ((overV t o.fr o.to).2 : Int)))) := rfl
          generalize hov : overV t o.fr o.to = ov at *
          obtain ⟨f1, f2⟩ := ov
          dsimp only at on1 ⊢
          by_cases k1 : (f1 : Int) ≤ place
          · by_cases k2 : place < (f2 : Int)
            · have hon : onV t place o = true := by rw [on1, decide_eq_true h3, decide_eq_true k1, decide_eq_true k2]; rfl
              rw [hon, if_pos rfl] at hnx
              have hbr : SRows B 22 (.slice v1 b.length v3) (b.map ocs) := by
                have h' : B.ownsRow w.heap.size 47 22 (.slice v1 b.length v3) (b.map ocs).length (b.map ocs).flatten := by rw [List.length_map]; exact hoB
                exact SRows.of_own h' (ocs_len b) (by decide)
              (refine Ga ?_)
              refine Tl.W_cutB (α := Nat) (fun n => [(0, .pointer (some ⟨q, 0, none⟩)), (1, .slice (some ⟨g, off, none⟩) ls.length c), (2, .int .i64 place), (7, .slice v1 b.length v3), (8, .int .i64 (i : Int)), (11, .int .i64 (n : Int))]) (fun n A' => n ≤ b.length ∧ (∀ j (h : j < b.length), j < n → cmpS b[j].key o.key < 0) ∧ (∀ h : n < b.length, ¬ cmpS b[n].key o.key < 0) ∧ Below B.heap.size B A') ?_ ?_
              · refine W_loop (α := Nat) (fun n => [(0, .pointer (some ⟨q, 0, none⟩)), (1, .slice (some ⟨g, off, none⟩) ls.length c), (2, .int .i64 place), (7, .slice v1 b.length v3), (8, .int .i64 (i : Int)), (11, .int .i64 (n : Int))])
                  (fun n A' => n ≤ b.length ∧ (∀ j (h : j < b.length), j < n → cmpS b[j].key o.key < 0) ∧ Below B.heap.size B A') (fun n _ => b.length - n) 0 ⟨Nat.zero_le _, fun j _ h => absurd h (Nat.not_lt_zero _), Below.refl _ _⟩ ⟨rfl, rfl, rfl, rfl, rfl, rfl, trivial⟩ ?_
                rintro J n C ⟨hn, hlt, hbC⟩
                by_cases hnl : n < b.length
                · have hbrC := SRows.below hbr hbC (Nat.le_refl _)
                  obtain ⟨g1, off1, rfl, _, hc1⟩ := hbrC.at (i := n) (by rw [List.length_map]; exact hnl)
                  rw [List.getElem_map] at hc1
                  have hcx := hc1 13 (.string b[n].key) rfl
                  have hrC := SRows.below hrB hbC (Nat.le_refl _)
                  obtain ⟨g', off', e', _, hcC⟩ := hrC.at (i := i) (by rw [List.length_map]; exact hil)
                  rw [List.getElem_map, hoi] at hcC
                  cases e'
                  have hco := hcC 13 (.string o.key) rfl
                  by_cases hk : cmpS b[n].key o.key < 0
                  · (refine Ga ?_)
                    refine W_draw 16 (fun A' => A' = World.drew _) rfl (by kernel_rfl) rfl ?_
                    (refine Qa ?_)
                    apply Qst_pu
                    · apply P_idxm (j := n) (sz := 22)
                      focus rfl
                      focus rfl
                      focus rfl
                      focus rfl
                      focus rfl
                      focus omega
                    focus rfl
                    (refine Qa ?_)
                    apply Qst_pu
                    · apply P_idxm (j := i) (sz := 22)
                      focus rfl
                      focus rfl
                      focus rfl
                      focus rfl
                      focus rfl
                      focus omega
                    focus rfl
                    (refine Qa ?_)
                    apply Qst_pu
                    · apply P_scmp (c := cmpS b[n].key o.key) (r := true)
                      focus rfl
                      focus rfl
                      focus rfl
                      focus rfl
                      focus exact decide_eq_true hk
                    focus rfl
                    (refine Qa ?_)
                    rintro _ rfl
                    (refine Ga ?_)
                    refine rndQ_n (α := Nat) (n + 1) ⟨hnl, fun j hj h => ?_, Below.drew hbC⟩ ⟨rfl, rfl, rfl, rfl, rfl, ?_, trivial⟩ (by omega)
                    · rcases Nat.lt_succ_iff_lt_or_eq.1 h with h | rfl
                      · exact hlt j hj h
                      · exact hk
                    · exact congrArg (Value.int .i64) (by omega)
                  · (refine Ga ?_)
                    refine W_draw 16 (fun A' => A' = World.drew _) rfl (by kernel_rfl) rfl ?_
                    (refine Qa ?_)
                    apply Qst_pu
                    · apply P_idxm (j := n) (sz := 22)
                      focus rfl
                      focus rfl
                      focus rfl
                      focus rfl
                      focus rfl
                      focus omega
                    focus rfl
                    (refine Qa ?_)
                    apply Qst_pu
                    · apply P_idxm (j := i) (sz := 22)
                      focus rfl
                      focus rfl
                      focus rfl
                      focus rfl
                      focus rfl
                      focus omega
                    focus rfl
                    (refine Qa ?_)
                    apply Qst_pu
                    · apply P_scmp (c := cmpS b[n].key o.key) (r := false)
                      focus rfl
                      focus rfl
                      focus rfl
                      focus rfl
                      focus exact decide_eq_false hk
                    focus rfl
                    (refine Qa ?_)
                    rintro _ rfl
                    (refine Ga ?_)
                    exact cutQ_n n ⟨hn, hlt, fun _ => hk, Below.drew hbC⟩ ⟨rfl, rfl, rfl, rfl, rfl, rfl, trivial⟩
                · (refine Ga ?_)
                  refine W_draw 16 (fun A' => A' = World.drew _) rfl (by kernel_rfl) rfl ?_
                  (refine Qa ?_)
                  rintro _ rfl
                  (refine Ga ?_)
                  exact cutQ_n n ⟨hn, hlt, fun h => absurd h hnl, Below.drew hbC⟩ ⟨rfl, rfl, rfl, rfl, rfl, rfl, trivial⟩
              rintro J n C ⟨hn, hlt, hge, hbC⟩
              have hoC := own_below hoB hbC (Nat.le_refl _)
              have hbrC := SRows.below hbr hbC (Nat.le_refl _)
              have bC := bB.trans (hbC.mono bB.size)
              have hrC := SRows.below hrB hbC (Nat.le_refl _)
              obtain ⟨g', off', e', _, hcC⟩ := hrC.at (i := i) (by rw [List.length_map]; exact hil)
              rw [List.getElem_map, hoi] at hcC
              cases e'
              have hco := hcC 13 (.string o.key) rfl
              have hra := rins_at hn hlt hge
              clear hoB hbr hrB hbC bB hc hc2 hrA hgA hgB ho hbA hlt hge hbB
              refine W_cut (α := Bool) (fun r => [(0, .pointer (some ⟨q, 0, none⟩)), (1, .slice (some ⟨g, off, none⟩) ls.length c), (2, .int .i64 place), (7, .slice v1 b.length v3), (8, .int .i64 (i : Int)), (11, .int .i64 (n : Int)), (89, .bool r)]) (fun r A' => r = decide (∀ h : n < b.length, b[n].key ≠ o.key) ∧ Below C.heap.size C A') ?_ ?_
              · by_cases hnl : n < b.length
                · obtain ⟨g1, off1, rfl, _, hc1⟩ := hbrC.at (i := n) (by rw [List.length_map]; exact hnl)
                  rw [List.getElem_map] at hc1
                  have hcx := hc1 13 (.string b[n].key) rfl
                  by_cases he : b[n].key = o.key
                  · skip
                    refine W_draw 16 (fun A' => A' = World.drew _) rfl (by kernel_rfl) rfl ?_
                    (refine Qa ?_)
                    apply Qst_pu
                    · apply P_idxm (j := n) (sz := 22)
                      focus rfl
                      focus rfl
                      focus rfl
                      focus rfl
                      focus rfl
                      focus omega
                    focus rfl
                    (refine Qa ?_)
                    apply Qst_pu
                    · apply P_idxm (j := i) (sz := 22)
                      focus rfl
                      focus rfl
                      focus rfl
                      focus rfl
                      focus rfl
                      focus omega
                    focus rfl
                    (refine Qa ?_)
                    rintro _ rfl
                    (refine Ga ?_)
                    exact cutQ_n false ⟨(decide_eq_false fun h => h hnl he).symm, Below.drew (Below.refl _ _)⟩ ⟨rfl, rfl, rfl, rfl, rfl, rfl, rfl, trivial⟩
                  · skip
                    refine W_draw 16 (fun A' => A' = World.drew _) rfl (by kernel_rfl) rfl ?_
                    (refine Qa ?_)
                    apply Qst_pu
                    · apply P_idxm (j := n) (sz := 22)
                      focus rfl
                      focus rfl
                      focus rfl
                      focus rfl
                      focus rfl
                      focus omega
                    focus rfl
                    (refine Qa ?_)
                    apply Qst_pu
                    · apply P_idxm (j := i) (sz := 22)
                      focus rfl
                      focus rfl
                      focus rfl
                      focus rfl
                      focus rfl
                      focus omega
                    focus rfl
                    (refine Qa ?_)
                    rintro _ rfl
                    (refine Ga ?_)
                    exact cutQ_n true ⟨(decide_eq_true fun _ => he).symm, Below.drew (Below.refl _ _)⟩ ⟨rfl, rfl, rfl, rfl, rfl, rfl, rfl, trivial⟩
                · obtain rfl : n = b.length := by omega
                  refine W_draw 16 (fun A' => A' = World.drew _) rfl (by kernel_rfl) rfl ?_
                  (refine Qa ?_)
                  rintro _ rfl
                  (refine Ga ?_)
                  exact cutQ_n true ⟨(decide_eq_true fun h => absurd h hnl).symm, Below.drew (Below.refl _ _)⟩ ⟨rfl, rfl, rfl, rfl, rfl, rfl, rfl, trivial⟩
              rintro J r D ⟨hr0, hbD⟩
              have hoD := own_below hoC hbD (Nat.le_refl _)
              have bD := bC.trans (hbD.mono bC.size)
              clear hbrC hrC hcC hco hoC bC hbD
              have hrD := SRows.below hr bD (Nat.le_refl _)
              cases r with
              | true =>
                have hne := of_decide_eq_true hr0.symm
                have hins : rins b o = b.take n ++ o :: b.drop n := by
                  rw [hra]
                  by_cases hnl : n < b.length
                  · rw [dif_pos hnl, if_pos (hne hnl)]
                  · rw [dif_neg hnl]
                rw [hins] at hnx
                have sD := bD.size
                (refine Ga ?_)
                apply Lst_push (hown := hoD) (bytes := 200)
                ((focus constructor); (focus rfl); (focus rfl); (focus rfl); (focus rfl); (focus rfl); (focus rfl); (focus rfl); (focus rfl); (focus rfl); (focus rfl); (focus simp [Value.oneCell']); (focus rfl); (focus rfl); (focus rfl); (focus rfl); (focus omega); (focus omega); (focus omega))
                intro v4 E ho2 hg2 _
                have bE := Below.own bD hoD hg2 (Nat.le_refl _) sD
                have ho3 : E.ownsRow w.heap.size 47 22 v4 (b.length + 1) ((b.take b.length ++ oz :: b.drop b.length).map ocs).flatten := by
                  rw [List.take_length, List.drop_length, List.map_append, List.flatten_append]
                  have e : ([oz].map ocs).flatten = ocs oz := by simp
                  rw [e]
                  exact ho2
                obtain ⟨y1, y3, rfl, hy3⟩ := own_form ho3
                clear hoD hrD ho2 hg2
                (refine Ga ?_)
                refine W_loop (α := Nat × Mo) (fun x => [(0, .pointer (some ⟨q, 0, none⟩)), (1, .slice (some ⟨g, off, none⟩) ls.length c), (2, .int .i64 place), (7, .slice y1 (b.length + 1) y3), (8, .int .i64 (i : Int)), (11, .int .i64 (n : Int)), (12, .int .i64 (x.1 : Int))])
                  (fun x A' => n ≤ x.1 ∧ x.1 ≤ b.length ∧ A'.ownsRow w.heap.size 47 22 (.slice y1 (b.length + 1) y3) (b.length + 1) ((b.take x.1 ++ x.2 :: b.drop x.1).map ocs).flatten ∧ Below w.heap.size w A') (fun x _ => x.1 - n) (b.length, oz) ⟨hn, Nat.le_refl _, ho3, bE⟩ ⟨rfl, rfl, rfl, rfl, rfl, rfl, ?_, trivial⟩ ?_
                · exact congrArg (Value.int .i64) (by omega)
                clear ho3 bE
                rintro J ⟨k, x⟩ E' ⟨hk1, hk2, hoE, bE⟩
                dsimp only at hk1 hk2 hoE bE ⊢
                have hlen : ((b.take k ++ x :: b.drop k).map ocs).length = b.length + 1 := by
                  rw [List.length_map, List.length_append, List.length_take, List.length_cons, List.length_drop]
                  omega
                by_cases hkn : n < k
                · obtain ⟨k, rfl⟩ : ∃ k', k = k' + 1 := ⟨k - 1, by omega⟩
                  have hkb : k < b.length := by omega
                  have hsh := shift_step x hkb
                  obtain ⟨g1, cap, l1, e1, hc1, hb1, kl, hl1, hset⟩ := own_setR0 hoE (ocs_len _) (by decide) (k := k + 1) (by omega)
                  cases e1
                  have hrow : SRows E' 22 (.slice (some ⟨g1, 0, none⟩) (b.length + 1) y3) ((b.take (k + 1) ++ x :: b.drop (k + 1)).map ocs) := SRows.of_own hoE (ocs_len _) (by decide)
                  obtain ⟨g', off', e', _, hcE⟩ := hrow.at (i := k) (by omega)
                  cases e'
                  have hgk : ((b.take (k + 1) ++ x :: b.drop (k + 1)).map ocs)[k]'(by omega) = ocs b[k] := by
                    rw [List.getElem_map, List.getElem_append_left (by rw [List.length_take]; omega), List.getElem_take]
                  rw [hgk] at hcE
                  have hs2 := hset (ocs b[k]) rfl
                  rw [← List.map_set, hsh] at hs2
                  (refine Ga ?_)
                  rw [show ((k + 1 : Nat) : Int) - 1 = (k : Int) by omega]
                  apply Lst_pu
                  · apply P_idxm (j := k) (sz := 22)
                    focus rfl
                    focus rfl
                    focus rfl
                    focus rfl
                    focus rfl
                    focus omega
                  focus rfl
                  apply Lst_loadS' (cs := ocs b[k])
                  focus rfl
                  focus rfl
                  focus rfl
                  focus rfl
                  focus rfl
                  focus exact hcE
                  focus rfl
                  (refine Ga ?_)
                  apply Lst_pu
                  · apply P_idxm (j := k + 1) (sz := 22)
                    focus rfl
                    focus rfl
                    focus rfl
                    focus rfl
                    focus rfl
                    focus omega
                  focus rfl
                  apply Lst_storeM (vs := ocs b[k]) (hb := kl)
                  focus rfl
                  focus rfl
                  focus rfl
                  focus rfl
                  focus exact fun u hu => ocs_one [b[k]] u (by simpa using hu)
                  focus exact hl1
                  (refine Ga ?_)
                  refine rndQ_n (α := Nat × Mo) (k, b[k]) ⟨by dsimp only; omega, by dsimp only; omega, hs2, Bel⟩ ⟨rfl, rfl, rfl, rfl, rfl, rfl, ?_, trivial⟩ (by dsimp only; omega)
                  exact congrArg (Value.int .i64) (by dsimp only; omega)
                · obtain rfl : k = n := by omega
                  obtain ⟨g1, cap, l1, e1, hc1, hb1, kl, hl1, hset⟩ := own_setR0 hoE (ocs_len _) (by decide) (k := k) (by omega)
                  cases e1
                  have hrE := SRows.below hr bE (Nat.le_refl _)
                  obtain ⟨g', off', e', _, hcE⟩ := hrE.at (i := i) (by rw [List.length_map]; exact hil)
                  rw [List.getElem_map, hoi] at hcE
                  cases e'
                  have hs2 := hset (ocs o) rfl
                  rw [← List.map_set, shift_set x o hn] at hs2
                  have hl2 : (b.take k ++ o :: b.drop k).length = b.length + 1 := by
                    rw [List.length_append, List.length_take, List.length_cons, List.length_drop]
                    omega
                  (refine Ga ?_)
                  apply Lst_pu
                  · apply P_idxm (j := i) (sz := 22)
                    focus rfl
                    focus rfl
                    focus rfl
                    focus rfl
                    focus rfl
                    focus omega
                  focus rfl
                  apply Lst_loadS' (cs := ocs o)
                  focus rfl
                  focus rfl
                  focus rfl
                  focus rfl
                  focus rfl
                  focus exact hcE
                  focus rfl
                  (refine Ga ?_)
                  apply Lst_pu
                  · apply P_idxm (j := k) (sz := 22)
                    focus rfl
                    focus rfl
                    focus rfl
                    focus rfl
                    focus rfl
                    focus omega
                  focus rfl
                  apply Lst_storeM (vs := ocs o) (hb := kl)
                  focus rfl
                  focus rfl
                  focus rfl
                  focus rfl
                  focus exact fun u hu => ocs_one [o] u (by simpa using hu)
                  focus exact hl1
                  (refine Ga ?_)
                  refine rndQ_n (α := Nat × Value) (i + 1, .slice (some ⟨g1, 0, none⟩) (b.length + 1) y3) ⟨hil, b.take k ++ o :: b.drop k, hnx.symm, by rw [hl2]; dsimp only; omega, by rw [hl2]; exact hs2, Bel⟩ ⟨rfl, rfl, rfl, rfl, ?_, trivial⟩ (by dsimp only; omega)
                  exact congrArg (Value.int .i64) (by dsimp only; omega)
              | false =>
                have hex : ∃ h : n < b.length, b[n].key = o.key := by
                  have := of_decide_eq_false hr0.symm
                  refine Decidable.byContradiction fun h => this fun h1 h2 => h ⟨h1, h2⟩
                obtain ⟨hnl, he⟩ := hex
                rw [dif_pos hnl, if_neg (fun h => h he)] at hra
                have hbr : SRows D 22 (.slice v1 b.length v3) (b.map ocs) := by
                  have h' : D.ownsRow w.heap.size 47 22 (.slice v1 b.length v3) (b.map ocs).length (b.map ocs).flatten := by rw [List.length_map]; exact hoD
                  exact SRows.of_own h' (ocs_len b) (by decide)
                obtain ⟨g1, off1, rfl, _, hc1⟩ := hbr.at (i := n) (by rw [List.length_map]; exact hnl)
                rw [List.getElem_map] at hc1
                obtain ⟨g', off', e', _, hcD⟩ := hrD.at (i := i) (by rw [List.length_map]; exact hil)
                rw [List.getElem_map, hoi] at hcD
                cases e'
                (refine Ga ?_)
                refine W_draw 8 (fun A' => A' = World.drew _) rfl (by kernel_rfl) rfl ?_
                (refine Qa ?_)
                apply Qst_pu
                · apply P_idxm (j := n) (sz := 22)
                  focus rfl
                  focus rfl
                  focus rfl
                  focus rfl
                  focus rfl
                  focus omega
                focus rfl
                apply Qst_loadS (cs := ocs b[n]) (hc := fun A9 hA9 j u hu => by subst hA9; exact hc1 j u hu)
                focus rfl
                focus rfl
                focus rfl
                focus rfl
                focus rfl
                focus rfl
                (refine Qa ?_)
                apply Qst_pu
                · apply P_idxm (j := i) (sz := 22)
                  focus rfl
                  focus rfl
                  focus rfl
                  focus rfl
                  focus rfl
                  focus omega
                focus rfl
                apply Qst_loadS (cs := ocs o) (hc := fun A9 hA9 j u hu => by subst hA9; exact hcD j u hu)
                focus rfl
                focus rfl
                focus rfl
                focus rfl
                focus rfl
                focus rfl
                (refine Qa ?_)
                rintro _ rfl
                have bD2 := Below.drew bD
                have hoD2 := own_drew hoD
                generalize D.drew = X at *
                (refine Ga ?_)
                (apply Lst_call; (focus rfl); (focus rfl))
                refine (r_Less11 b[n] o X).mono ?_
                rintro v Y ⟨rfl, hbY⟩
                have bY := bD2.trans (hbY.mono bD2.size)
                have hoY := own_below hoD2 hbY (Nat.le_refl _)
                have hrY := SRows.below hr bY (Nat.le_refl _)
                clear hoD2 bD2 hbY hbr hrD hoD bD hc1 hcD
                by_cases hm : mless b[n] o = true
                · rw [if_pos hm] at hra
                  rw [hra] at hnx
                  rw [hm]
                  obtain ⟨g2, cap, l1, e1, hc1, hb1, kl, hl1, hset⟩ := own_setR0 (ls := b.map ocs) hoY (ocs_len _) (by decide) (k := n) (by rw [List.length_map]; exact hnl)
                  cases e1
                  obtain ⟨g', off', e', _, hcY⟩ := hrY.at (i := i) (by rw [List.length_map]; exact hil)
                  rw [List.getElem_map, hoi] at hcY
                  cases e'
                  have hs2 := hset (ocs o) rfl
                  rw [← List.map_set] at hs2
                  (refine Ga ?_)
                  apply Lst_pu
                  · apply P_idxm (j := i) (sz := 22)
                    focus rfl
                    focus rfl
                    focus rfl
                    focus rfl
                    focus rfl
                    focus omega
                  focus rfl
                  apply Lst_loadS' (cs := ocs o)
                  focus rfl
                  focus rfl
                  focus rfl
                  focus rfl
                  focus rfl
                  focus exact hcY
                  focus rfl
                  (refine Ga ?_)
                  apply Lst_pu
                  · apply P_idxm (j := n) (sz := 22)
                    focus rfl
                    focus rfl
                    focus rfl
                    focus rfl
                    focus rfl
                    focus omega
                  focus rfl
                  apply Lst_storeM (vs := ocs o) (hb := kl)
                  focus rfl
                  focus rfl
                  focus rfl
                  focus rfl
                  focus exact fun u hu => ocs_one [o] u (by simpa using hu)
                  focus exact hl1
                  (refine Ga ?_)
                  refine rndQ_n (α := Nat × Value) (i + 1, .slice (some ⟨g1, 0, none⟩) b.length v3) ⟨hil, b.set n o, hnx.symm, by rw [List.length_set]; dsimp only; omega, by rw [List.length_set]; exact hs2, Bel⟩ ⟨rfl, rfl, rfl, rfl, ?_, trivial⟩ (by dsimp only; omega)
                  exact congrArg (Value.int .i64) (by dsimp only; omega)
                · rw [if_neg hm] at hra
                  rw [hra] at hnx
                  rw [Bool.not_eq_true] at hm
                  rw [hm]
                  (refine Ga ?_)
                  refine rndQ_n (α := Nat × Value) (i + 1, .slice (some ⟨g1, off1, none⟩) b.length v3) ⟨hil, b, hnx.symm, by dsimp only; omega, hoY, bY⟩ ⟨rfl, rfl, rfl, rfl, ?_, trivial⟩ (by dsimp only; omega)
                  exact congrArg (Value.int .i64) (by dsimp only; omega)
            · have hon : onV t place o = false := by rw [on1, decide_eq_false k2]; simp
              (refine Ga ?_)
              refine rndQ_n (α := Nat × Value) (i + 1, .slice v1 b.length v3) ⟨hil, b, by rw [hnx, hon]; rfl, by dsimp only; omega, hoB, bB⟩ ⟨rfl, rfl, rfl, rfl, ?_, trivial⟩ (by dsimp only; omega)
              exact congrArg (Value.int .i64) (by dsimp only; omega)
          · have hon : onV t place o = false := by rw [on1, decide_eq_false k1]; simp
            (refine Ga ?_)
            refine rndQ_n (α := Nat × Value) (i + 1, .slice v1 b.length v3) ⟨hil, b, by rw [hnx, hon]; rfl, by dsimp only; omega, hoB, bB⟩ ⟨rfl, rfl, rfl, rfl, ?_, trivial⟩ (by dsimp only; omega)
            exact congrArg (Value.int .i64) (by dsimp only; omega)
    · have hon : onV t place o = false := by unfold onV; rw [decide_eq_false h3]; simp
      (refine Ga ?_)
      apply Lst_pu
      · apply P_idxm (j := i) (sz := 22)
        focus rfl
        focus rfl
        focus rfl
        focus rfl
        focus rfl
        focus omega
      focus rfl
      (refine Ga ?_)
      refine rndQ_n (α := Nat × Value) (i + 1, .slice v1 b.length v3) ⟨hil, b, by rw [hnx, hon]; rfl, by dsimp only; omega, ho, hbA⟩ ⟨rfl, rfl, rfl, rfl, ?_, trivial⟩ (by dsimp only; omega)
      exact congrArg (Value.int .i64) (by dsimp only; omega)
    -- end of the print
  · obtain rfl : i = ls.length := by omega
    rw [List.take_length] at hbe
    rw [← hbe]
    have hbr : SRows A 22 (.slice v1 b.length v3) (b.map ocs) := by
      have h' : A.ownsRow w.heap.size 47 22 (.slice v1 b.length v3) (b.map ocs).length (b.map ocs).flatten := by rw [List.length_map]; exact ho
      exact SRows.of_own h' (ocs_len b) (by decide)
    clear ho hr h hbe
    (refine Ga ?_)
    refine W_loop (α := Nat × Value) (fun x => [(7, .slice v1 b.length v3), (13, x.2), (14, .int .i64 (x.1 : Int))])
      (fun x B => x.1 ≤ b.length ∧ OwnM A.heap.size B x.2 (rtell (b.take x.1)) ∧ Below A.heap.size A B) (fun x _ => b.length - x.1) (0, .slice none 0 0) ⟨Nat.zero_le _, OwnM.nil _ _, Below.refl _ _⟩ ⟨rfl, rfl, rfl, trivial⟩ ?_
    rintro J ⟨j, v⟩ B ⟨hj, ho, hbB⟩
    dsimp only at hj ho hbB ⊢
    have hrl : (rtell (b.take j)).length ≤ 1000000 := by
      unfold rtell
      rw [List.length_map]
      refine Nat.le_trans (List.length_filter_le _ _) ?_
      rw [List.length_take]
      omega
    obtain ⟨u1, u3, rfl, _⟩ := own_form ho
    by_cases hjl : j < b.length
    · obtain ⟨g1, off1, rfl, _, hc1⟩ := hbr.at (i := j) (by rw [List.length_map]; exact hjl)
      rw [List.getElem_map] at hc1
      have htk : rtell (b.take (j + 1)) = rtell (b.take j) ++ if b[j].v.k = 0 then [] else [(b[j].key, b[j].v)] := by rw [List.take_succ_eq_append_getElem hjl, rtell_snoc]
      have hc9 := cell_below hbB (hc1 9 (.int .i64 b[j].v.k) rfl)
      (refine Ga ?_)
      apply Lst_pu
      · apply P_idxm (j := j) (sz := 22)
        focus rfl
        focus rfl
        focus rfl
        focus rfl
        focus rfl
        focus omega
      focus rfl
      by_cases hk : b[j].v.k = 0
      · rw [if_pos hk, List.append_nil] at htk
        (refine Ga ?_)
        refine rndQ_n (α := Nat × Value) (j + 1, .slice u1 (rtell (b.take j)).length u3) ⟨hjl, by dsimp only; rw [htk]; exact ho, hbB⟩ ⟨rfl, rfl, ?_, trivial⟩ (by dsimp only; omega)
        exact congrArg (Value.int .i64) (by dsimp only; omega)
      · rw [if_neg hk] at htk
        have hc13 := hc1 13 (.string b[j].key) rfl
        have hcv : ∀ (m : Nat) (u : Value), [Value.int .i64 b[j].v.k, .int .i64 b[j].v.n, .float .f64 b[j].v.f, .string b[j].v.s][m]? = some u → A.cell? ⟨g1, off1 + j * 22 + 9 + m, none⟩ = some u := fun m u hu => by
          have hm : m < 4 := (List.getElem?_eq_some_iff.1 hu).1
          rw [show off1 + j * 22 + 9 + m = off1 + j * 22 + (9 + m) by omega]
          refine hc1 (9 + m) u ?_
          rcases (show m = 0 ∨ m = 1 ∨ m = 2 ∨ m = 3 by omega) with rfl | rfl | rfl | rfl <;> exact hu
        (refine Ga ?_)
        refine W_drawS 15 (fun Z => Below A.heap.size A Z) rfl rfl ?_
        have hS := Below.drew hbB
        have hoX := own_drew ho
        generalize B.drew = X at *
        refine S_takeV 0 14 rfl (by kernel_rfl) (by repeat (first | exact retQ_p | apply seqQ_p | apply blkQ_p | apply rndQ_p | apply cutQ_p)) hS ?_
        (refine Qb ?_)
        refine S_takeV 1 13 rfl (by kernel_rfl) (by repeat (first | exact retQ_p | apply seqQ_p | apply blkQ_p | apply rndQ_p | apply cutQ_p)) hS ?_
        (refine Qb ?_)
        refine S_takeV 2 12 rfl (by kernel_rfl) (by repeat (first | exact retQ_p | apply seqQ_p | apply blkQ_p | apply rndQ_p | apply cutQ_p)) hS ?_
        (refine Qb ?_)
        refine S_takeV 3 11 rfl (by kernel_rfl) (by repeat (first | exact retQ_p | apply seqQ_p | apply blkQ_p | apply rndQ_p | apply cutQ_p)) hS ?_
        apply Qst_pu
        · apply P_idxm (j := j) (sz := 22)
          focus rfl
          focus rfl
          focus rfl
          focus rfl
          focus rfl
          focus omega
        focus rfl
        (refine Qb ?_)
        refine S_takeV 4 10 rfl (by kernel_rfl) (by repeat (first | exact retQ_p | apply seqQ_p | apply blkQ_p | apply rndQ_p | apply cutQ_p)) hS ?_
        (refine Qb ?_)
        refine S_takeV 5 9 rfl (by kernel_rfl) (by repeat (first | exact retQ_p | apply seqQ_p | apply blkQ_p | apply rndQ_p | apply cutQ_p)) hS ?_
        apply Qst_loadc
        focus rfl
        focus rfl
        focus rfl
        focus exact fun A9 hA9 => cell_below hA9 hc13
        focus rfl
        (refine Qb ?_)
        refine S_takeV 6 8 rfl (by kernel_rfl) (by repeat (first | exact retQ_p | apply seqQ_p | apply blkQ_p | apply rndQ_p | apply cutQ_p)) hS ?_
        (refine Qb ?_)
        refine S_takeV 7 7 rfl (by kernel_rfl) (by repeat (first | exact retQ_p | apply seqQ_p | apply blkQ_p | apply rndQ_p | apply cutQ_p)) hS ?_
        (refine Qb ?_)
        refine S_takeV 8 6 rfl (by kernel_rfl) (by repeat (first | exact retQ_p | apply seqQ_p | apply blkQ_p | apply rndQ_p | apply cutQ_p)) hS ?_
        apply Qst_pu
        · apply P_idxm (j := j) (sz := 22)
          focus rfl
          focus rfl
          focus rfl
          focus rfl
          focus rfl
          focus omega
        focus rfl
        (refine Qb ?_)
        refine S_takeV 9 5 rfl (by kernel_rfl) (by repeat (first | exact retQ_p | apply seqQ_p | apply blkQ_p | apply rndQ_p | apply cutQ_p)) hS ?_
        (refine Qb ?_)
        refine S_takeV 10 4 rfl (by kernel_rfl) (by repeat (first | exact retQ_p | apply seqQ_p | apply blkQ_p | apply rndQ_p | apply cutQ_p)) hS ?_
        apply Qst_loadS (cs := [Value.int .i64 b[j].v.k, .int .i64 b[j].v.n, .float .f64 b[j].v.f, .string b[j].v.s]) (hc := fun A9 hA9 m u hu => cell_below hA9 (hcv m u hu))
        focus rfl
        focus rfl
        focus rfl
        focus rfl
        focus rfl
        focus rfl
        (refine Qb ?_)
        refine S_takeV 11 3 rfl (by kernel_rfl) (by repeat (first | exact retQ_p | apply seqQ_p | apply blkQ_p | apply rndQ_p | apply cutQ_p)) hS ?_
        (refine Qb ?_)
        refine S_any [12] 2 rfl (by kernel_rfl) (all1 ?_)
        (apply Lst_lit1; (focus constructor); (focus rfl); (focus rfl); (focus rfl); (focus rfl); (focus rfl); (focus rfl); (focus rfl); (focus rfl); (focus ((try simp only [Sx.sizes]); first | done | rfl)); (focus rfl))
        apply Lst_nil
        apply rnQ_n
        have oY := own_alloc hoX (.cells [Value.string b[j].key, .int .i64 b[j].v.k, .int .i64 b[j].v.n, .float .f64 b[j].v.f, .string b[j].v.s].toArray 57)
        have kY : Blk (X.alloc (.cells [Value.string b[j].key, .int .i64 b[j].v.k, .int .i64 b[j].v.n, .float .f64 b[j].v.f, .string b[j].v.s].toArray 57)) X.heap.size [Value.string b[j].key, .int .i64 b[j].v.k, .int .i64 b[j].v.n, .float .f64 b[j].v.f, .string b[j].v.s] 57 := Blk.newE rfl _ _
        have hS2 : Below A.heap.size A (X.alloc (.cells [Value.string b[j].key, .int .i64 b[j].v.k, .int .i64 b[j].v.n, .float .f64 b[j].v.f, .string b[j].v.s].toArray 57)) := hS.alloc hS.size _
        refine ⟨hS2, ?_⟩
        clear hoX
        generalize X.heap.size = Xs at *
        generalize X.alloc (.cells [Value.string b[j].key, .int .i64 b[j].v.k, .int .i64 b[j].v.n, .float .f64 b[j].v.f, .string b[j].v.s].toArray 57) = Y at *
        have sY := hS2.size
        refine S_any [13] 1 rfl (by kernel_rfl) (all1 ?_)
        apply Lst_append (hown := oY) (bytes := 56) (news := [Value.string b[j].key, .int .i64 b[j].v.k, .int .i64 b[j].v.n, .float .f64 b[j].v.f, .string b[j].v.s])
        focus rfl
        focus rfl
        focus rfl
        focus rfl
        focus rfl
        focus rfl
        focus rfl
        focus rfl
        focus rfl
        focus (intro m u hu; rw [kY.cell, Nat.zero_add]; exact hu)
        focus rfl
        focus simp [Value.oneCell']
        focus omega
        focus omega
        focus exact sY
        focus rfl
        intro v4 Z ho2 hg2 _
        have hS3 := Below.own hS2 oY hg2 (Nat.le_refl _) sY
        have ho3 : OwnM A.heap.size Z v4 (rtell (b.take (j + 1))) := by
          unfold OwnM
          rw [htk, List.length_append, List.map_append, List.flatten_append]
          have e : ([(b[j].key, b[j].v)].map mcs).flatten = mcs (b[j].key, b[j].v) := by simp
          rw [e]
          exact ho2
        obtain ⟨y1, y2, y3, rfl⟩ := own_slice ho3
        apply Lst_nil
        apply rnQ_n
        refine ⟨hS3, ?_⟩
        refine S_any [14] 0 rfl (by kernel_rfl) (all1 ?_)
        (refine Gf ?_)
        apply rnQ_n
        refine ⟨hS3, ?_⟩
        refine S_done (by kernel_rfl) ?_
        (refine Ga ?_)
        refine rndQ_n (α := Nat × Value) (j + 1, .slice y1 y2 y3) ⟨hjl, ho3, hS3⟩ ⟨rfl, rfl, ?_, trivial⟩ (by dsimp only; omega)
        exact congrArg (Value.int .i64) (by dsimp only; omega)
    · rw [List.take_of_length_le (by omega)] at ho hrl
      rw [List.take_of_length_le (by omega)]
      (refine Ga ?_)
      (apply retQ1; (focus rfl))
      exact ⟨own_lowM ho hbA.size, hbA.trans (hbB.mono hbA.size)⟩
end
end Mk
end Go.Proofs.YtmgipnckojopcaaGreat
