/- slices.Insert of pointers to nodes; the small functions of ids. -/
import Derived.Test.YtmammcgdjjldbaaSxIns
import Derived.Test.YtmammcgdjjldbaaSqK
import Derived.Test.YtmammcgdjjldbaaSxT
namespace Go.Proofs.Ytmammcgdjjldbaa
set_option maxRecDepth 100000
namespace Sq
open Go Go.RowKit Sx Tl
abbrev Grown (X A : World) : Prop := Below X.heap.size X A
theorem grown_start (X : World) : Grown X X.drew := Below.drew (Below.refl _ _)
theorem Blk.raw {w : World} {b : Nat} {l : List Value} {e : TypeId} (h : Blk w b l e) : w.heap[b]? = some (.cells l.toArray e (0, 0)) := h
theorem grown_self (w : World) (g : Nat) (o : Obj) : w.grownBy (w.drew.putObj g o) (some g) :=
  ⟨rfl, rfl, rfl, by rw [World.putObj_size]; exact Nat.le_refl _, fun q hq hne => World.putObj_heap_other (fun e => hne (by rw [e]))⟩
theorem grown_two {w w' : World} {g : Nat} (h : w.grownBy w' (some g)) (o : Obj) : w.grownBy (w'.putObj g o) (some g) :=
  ⟨h.os, h.tape, h.output, by rw [World.putObj_size]; exact h.size, fun q hq hne => (World.putObj_heap_other (fun e => hne (by rw [e]))).trans (h.block q hq hne)⟩
theorem grown_put {w w' : World} {b : Nat} {row : Option Nat} (h : w.grownBy w' row) (hb : w.heap.size ≤ b) (o : Obj) : w.grownBy (w'.putObj b o) row :=
  ⟨h.os, h.tape, h.output, by rw [World.putObj_size]; exact h.size, fun k hk hr => (World.putObj_heap_other (by omega)).trans (h.block k hk hr)⟩
attribute [local irreducible] W Lst Qst Pu seqQ blkQ rndQ cutQ retQ Does Enters IntKind.wrap bits sb World.alloc World.putObj Blk
set_option maxHeartbeats 2000000 in
/-- slices.Insert(s, i, xs...): s a row of one's own; in place, or a new row. -/
theorem c_Ins (B nn i m : Nat) (v y : Value) (xs ns lv : List Value) (vb vo vc tv : Nat) (hi : i ≤ nn) (hm : 0 < m) (hl : nn + m ≤ 1000000000) (w : World) (h : w.ownsRow B 73 1 v nn xs) (hB : B ≤ w.heap.size)
    (hy : y = .slice (some ⟨vb, vo, none⟩) m vc) (hn : ns.length = m) (hvk : Blk w vb lv tv) (hnl : ∀ j u, ns[j]? = some u → lv[vo + j]? = some u) (hx1 : ∀ u ∈ xs, u.oneCell' = true) (hn1 : ∀ u ∈ ns, u.oneCell' = true) (hvb : v.ownBlock ≠ some vb) :
    Does Try.prog 50 #[v, .int .i64 (i : Int), y] w fun u w' =>
      w'.ownsRow B 73 1 u (nn + m) (xs.take i ++ ns ++ xs.drop i) ∧ w.grownBy w' v.ownBlock ∧ (u.ownBlock = v.ownBlock ∨ u.ownBlock = some w.heap.size) := by
  subst hy
  refine Does_of (args := [v, .int .i64 (i : Int), .slice (some ⟨vb, vo, none⟩) m vc]) Try.func50 (by kernel_rfl) rfl rfl rfl rfl rfl ?_
  have hxl : xs.length = nn := by rw [h.1, Nat.mul_one]
  have hvlt : vb < w.heap.size := hvk.lt
  have hns : ∀ j u, ns[j]? = some u → w.cell? ⟨vb, vo + j, none⟩ = some u := fun j u hu => by rw [hvk.cell]; exact hnl j u hu
  by_cases he : i = nn
  · subst he
    have hform := own_form h
    obtain ⟨a, c, rfl, hc⟩ := hform
    (refine Ga ?_)
    apply Lst_appendAt (hown := h) (bytes := 8) (news := ns)
    focus rfl
    focus rfl
    focus rfl
    focus rfl
    focus rfl
    focus rfl
    focus rfl
    focus rfl
    focus rfl
    focus exact fun j u hu => by rw [add_none]; exact hns j u hu
    focus (rw [hn]; omega)
    focus exact hn1
    focus omega
    focus omega
    focus exact hB
    focus rfl
    intro v' w2 ho hg hat
    obtain ⟨v1, v2, v3, rfl⟩ := own_slice ho
    (refine Ga ?_)
    (apply retQ1; (focus rfl))
    refine ⟨?_, hg, hat⟩
    rw [List.take_of_length_le (by omega), List.drop_of_length_le (by omega), List.append_nil]
    exact ho
  · rcases h.2 with ⟨rfl, hn0⟩ | ⟨g, cap, cur, rfl, hbg, hg, hnc, hcm, hcs, htk⟩
    · omega
    rw [Nat.mul_one] at hcs htk
    have hgv : g ≠ vb := fun e => hvb (by rw [e]; rfl)
    have hcm' : cap ≤ 9223372036854775807 := by simp only [maxLen] at hcm; omega
    have hblk : Blk w g cur.toList 73 := by
      unfold Blk
      rw [Array.toArray_toList]
      exact hg
    have hcl : cur.toList.length = cap := by rw [Array.length_toList, hcs]
    generalize cur.toList = l at *
    clear hg hcs
    have hxn : ∀ j u, xs[j]? = some u → l[j]? = some u := fun j u hu => by
      rw [← htk, List.getElem?_take] at hu
      split at hu
      · exact hu
      · cases hu
    (refine Gf ?_)
    apply Lst_pu
    · apply P_sl_lo (i)
      focus rfl
      focus rfl
      focus rfl
      focus rfl
      focus rfl
      focus omega
      focus omega
      focus omega
    focus rfl
    (refine Gf ?_)
    apply Lst_pu
    · apply P_cap
      focus rfl
      focus rfl
    focus rfl
    by_cases hroom : cap < nn + m
    · (refine Gf ?_)
      apply Lst_pu
      · apply P_sl_hi (i)
        focus rfl
        focus rfl
        focus rfl
        focus rfl
        focus rfl
        focus omega
        focus omega
      focus rfl
      (refine Gf ?_)
      have e1 : (nn : Int) + (m : Int) - (i : Int) = ((nn + m - i : Nat) : Int) := by omega
      apply Lst_zeros (olds := xs.take i)
      focus rfl
      focus exact congrArg (Value.int .i64) e1
      focus rfl
      focus rfl
      focus rfl
      focus rfl
      focus rfl
      focus rfl
      focus (rw [List.length_take]; omega)
      focus (intro j u hu; rw [Nat.zero_add, hblk.cell]; rw [List.getElem?_take] at hu; split at hu; (exact hxn j u hu); (cases hu))
      focus omega
      focus omega
      focus omega
      focus (show (i + (nn + m - i)) * 8 ≤ 140737488355328; omega)
      focus rfl
      intro w1 c1 l1 hb1 hl1 hn1' hcm1 ht1 hg1 hs1
      (refine Gf ?_)
      apply Lst_pu
      · apply P_sl_lo (i)
        focus rfl
        focus rfl
        focus rfl
        focus rfl
        focus rfl
        focus omega
        focus omega
        focus omega
      focus rfl
      (refine Gf ?_)
      have hv1 : ∀ q, w1.cell? ⟨vb, q, none⟩ = w.cell? ⟨vb, q, none⟩ := fun q => World.cell?_of_block (hg1.block vb hvlt (by simp))
      have hgl : g < w.heap.size := hblk.lt
      apply Lst_copyB (cs := ns)
      focus rfl
      focus rfl
      focus rfl
      focus rfl
      focus rfl
      focus (rw [hn]; simp only [Nat.min_def]; split <;> omega)
      focus exact fun q u hu => by rw [add_none, hv1]; exact hns q u hu
      focus exact hb1
      focus omega
      focus exact hn1
      focus rfl
      have hb2 : Blk (w1.putObj w.heap.size (.cells (l1.take (0 + i) ++ ns ++ l1.drop (0 + i + ns.length)).toArray 73)) w.heap.size (l1.take (0 + i) ++ ns ++ l1.drop (0 + i + ns.length)) 73 := Blk.put_same hs1 _ _
      have hg2 : w.grownBy (w1.putObj w.heap.size (.cells (l1.take (0 + i) ++ ns ++ l1.drop (0 + i + ns.length)).toArray 73)) none := grown_put hg1 (Nat.le_refl _) _
      have hl2 : (l1.take (0 + i) ++ ns ++ l1.drop (0 + i + ns.length)).length = c1 := by
        simp only [List.length_append, List.length_take, List.length_drop]
        omega
      have ht2 : (l1.take (0 + i) ++ ns ++ l1.drop (0 + i + ns.length)).take (i + m) = xs.take i ++ ns := by
        rw [List.take_left' (by rw [List.length_append, List.length_take]; omega), Nat.zero_add, ht1]
      generalize l1.take (0 + i) ++ ns ++ l1.drop (0 + i + ns.length) = l2 at *
      generalize w1.putObj w.heap.size (.cells l2.toArray 73) = w2 at *
      have hs2 := hb2.lt
      (refine Gf ?_)
      refine W_draw 8 (fun A => A = w2.drew) rfl (by kernel_rfl) rfl ?_
      (refine Qf ?_)
      apply Qst_pu
      · apply P_sl_lo (i + m)
        focus rfl
        focus rfl
        focus rfl
        focus rfl
        focus rfl
        focus omega
        focus omega
        focus omega
      focus rfl
      (refine Qf ?_)
      apply Qst_pu
      · apply P_sl_lo (i)
        focus rfl
        focus rfl
        focus rfl
        focus rfl
        focus rfl
        focus omega
        focus omega
        focus omega
      focus rfl
      (refine Qf ?_)
      rintro _ rfl
      have hb2d : Blk w2.drew w.heap.size l2 73 := Blk.drew hb2
      have hsrc : ∀ q u, (xs.drop i)[q]? = some u → w2.drew.cell? ((⟨g, 0 + i, none⟩ : Addr).add q) = some u := fun q u hu => by
        rw [add_none]
        rw [List.getElem?_drop] at hu
        have e : w2.drew.cell? ⟨g, 0 + i + q, none⟩ = w.cell? ⟨g, 0 + i + q, none⟩ := World.cell?_of_block (hg2.block g hgl (by simp))
        rw [e, hblk.cell, Nat.zero_add]
        exact hxn _ _ hu
      apply Lst_copyB (cs := xs.drop i)
      focus rfl
      focus rfl
      focus rfl
      focus rfl
      focus rfl
      focus (rw [List.length_drop]; simp only [Nat.min_def]; split <;> omega)
      focus exact hsrc
      focus exact hb2d
      focus (rw [List.length_drop]; omega)
      focus exact fun u hu => hx1 u (List.mem_of_mem_drop hu)
      focus rfl
      (refine Gf ?_)
      (apply retQ1; (focus rfl))
      refine ⟨⟨?_, .inr ⟨w.heap.size, c1, (l2.take (0 + (i + m)) ++ xs.drop i ++ l2.drop (0 + (i + m) + (xs.drop i).length)).toArray, ?_, hB, Blk.raw (Blk.put_same (w := w2.drew) hs2 _ _), by omega, hcm1, ?_, ?_⟩⟩, ?_⟩
      · simp only [List.length_append, List.length_take, List.length_drop]
        omega
      · have : i + (nn + m - i) = nn + m := by omega
        exact congrArg (fun q => Value.slice (some ⟨w.heap.size, 0, none⟩) q c1) this
      · simp only [List.size_toArray, List.length_append, List.length_take, List.length_drop]
        omega
      · rw [Nat.zero_add, ht2, Nat.mul_one]
        exact List.take_left' (by simp only [List.length_append, List.length_take, List.length_drop]; omega)
      · have hg3 : w.grownBy w2.drew none := ⟨hg2.os, hg2.tape, hg2.output, hg2.size, hg2.block⟩
        have := grown_put hg3 (Nat.le_refl w.heap.size) (.cells (l2.take (0 + (i + m)) ++ xs.drop i ++ l2.drop (0 + (i + m) + (xs.drop i).length)).toArray 73)
        exact ⟨⟨this.os, this.tape, this.output, this.size, fun q hq _ => this.block q hq (by simp)⟩, .inr rfl⟩
    · (refine Gf ?_)
      apply Lst_pu
      · apply P_sl_hi (nn + m)
        focus rfl
        focus rfl
        focus rfl
        focus rfl
        focus rfl
        focus omega
        focus omega
      focus rfl
      (refine Gf ?_)
      apply Lst_pu
      · apply P_sl_lo (i + m)
        focus rfl
        focus rfl
        focus rfl
        focus rfl
        focus rfl
        focus omega
        focus omega
        focus omega
      focus rfl
      (refine Gf ?_)
      have hl0 : l.length ≠ 0 := by omega
      apply Lst_ext (e := Extern.SlicesOverlaps.overlaps #[69, 69] #[4]) (v := .bool false)
      focus kernel_rfl
      focus rfl
      focus exact Try.func56
      focus kernel_rfl
      focus kernel_rfl
      focus kernel_rfl
      focus exact Lib.run_overlaps_apart w 69 4 73 Try.underlying69 1 (fun w => by rfl) ⟨vb, vo, none⟩ ⟨g, 0 + (i + m), none⟩ m vc _ _ (Ne.symm hgv) _ _ _ _ hvk.shape hblk.shape hl0 (hvk.frozen _) (hvk.frozen _)
      focus rfl
      (refine Gf ?_)
      refine W_draw 8 (fun A => A = w.drew) rfl (by kernel_rfl) rfl ?_
      (refine Qf ?_)
      apply Qst_pu
      · apply P_sl_lo (i + m)
        focus rfl
        focus rfl
        focus rfl
        focus rfl
        focus rfl
        focus omega
        focus omega
        focus omega
      focus rfl
      (refine Qf ?_)
      apply Qst_pu
      · apply P_sl_lo (i)
        focus rfl
        focus rfl
        focus rfl
        focus rfl
        focus rfl
        focus omega
        focus omega
        focus omega
      focus rfl
      (refine Qf ?_)
      rintro _ rfl
      have hbd : Blk w.drew g l 73 := Blk.drew hblk
      have hsrc : ∀ q u, (xs.drop i)[q]? = some u → w.drew.cell? ((⟨g, 0 + i, none⟩ : Addr).add q) = some u := fun q u hu => by
        rw [add_none]
        rw [List.getElem?_drop] at hu
        rw [hbd.cell, Nat.zero_add]
        exact hxn _ _ hu
      apply Lst_copyB (cs := xs.drop i)
      focus rfl
      focus rfl
      focus rfl
      focus rfl
      focus rfl
      focus (rw [List.length_drop]; simp only [Nat.min_def]; split <;> omega)
      focus exact hsrc
      focus exact hbd
      focus (rw [List.length_drop]; omega)
      focus exact fun u hu => hx1 u (List.mem_of_mem_drop hu)
      focus rfl
      have hgl : g < w.heap.size := hblk.lt
      have hb2 : Blk (w.drew.putObj g (.cells (l.take (0 + (i + m)) ++ xs.drop i ++ l.drop (0 + (i + m) + (xs.drop i).length)).toArray 73)) g (l.take (0 + (i + m)) ++ xs.drop i ++ l.drop (0 + (i + m) + (xs.drop i).length)) 73 := Blk.put_same (w := w.drew) hgl _ _
      have hg2 : w.grownBy (w.drew.putObj g (.cells (l.take (0 + (i + m)) ++ xs.drop i ++ l.drop (0 + (i + m) + (xs.drop i).length)).toArray 73)) (some g) := grown_self w g _
      have hl2 : (l.take (0 + (i + m)) ++ xs.drop i ++ l.drop (0 + (i + m) + (xs.drop i).length)).length = cap := by
        simp only [List.length_append, List.length_take, List.length_drop]
        omega
      have ht2 : (l.take (0 + (i + m)) ++ xs.drop i ++ l.drop (0 + (i + m) + (xs.drop i).length)).take i = xs.take i := by
        rw [List.append_assoc, List.take_append_of_le_length (by rw [List.length_take]; omega), List.take_take, Nat.min_eq_left (by omega), ← htk, List.take_take, Nat.min_eq_left (by omega)]
      have hd2 : ((l.take (0 + (i + m)) ++ xs.drop i ++ l.drop (0 + (i + m) + (xs.drop i).length)).drop (i + m)).take (nn - i) = xs.drop i := by
        rw [List.append_assoc, List.drop_append, List.drop_of_length_le (by rw [List.length_take]; omega), List.nil_append]
        have : i + m - (l.take (0 + (i + m))).length = 0 := by rw [List.length_take]; omega
        rw [this, List.drop_zero]
        exact List.take_left' (by rw [List.length_drop]; omega)
      generalize l.take (0 + (i + m)) ++ xs.drop i ++ l.drop (0 + (i + m) + (xs.drop i).length) = l2 at *
      generalize w.drew.putObj g (.cells l2.toArray 73) = w2 at *
      have hs2 := hb2.lt
      have hv2 : ∀ q, w2.cell? ⟨vb, q, none⟩ = w.cell? ⟨vb, q, none⟩ := fun q => World.cell?_of_block (hg2.block vb hvlt (by simpa using Ne.symm hgv))
      (refine Gf ?_)
      apply Lst_pu
      · apply P_sl_lo (i)
        focus rfl
        focus rfl
        focus rfl
        focus rfl
        focus rfl
        focus omega
        focus omega
        focus omega
      focus rfl
      (refine Gf ?_)
      apply Lst_copyB (cs := ns)
      focus rfl
      focus rfl
      focus rfl
      focus rfl
      focus rfl
      focus (rw [hn]; simp only [Nat.min_def]; split <;> omega)
      focus exact fun q u hu => by rw [add_none, hv2]; exact hns q u hu
      focus exact hb2
      focus omega
      focus exact hn1
      focus rfl
      (refine Gf ?_)
      (apply retQ1; (focus rfl))
      refine ⟨⟨?_, .inr ⟨g, cap, (l2.take (0 + i) ++ ns ++ l2.drop (0 + i + ns.length)).toArray, rfl, hbg, Blk.raw (Blk.put_same hs2 _ _), by omega, hcm, ?_, ?_⟩⟩, ?_⟩
      · simp only [List.length_append, List.length_take, List.length_drop]
        omega
      · simp only [List.size_toArray, List.length_append, List.length_take, List.length_drop]
        omega
      · rw [Nat.zero_add, ht2, Nat.mul_one, hn]
        show List.take (nn + m) (xs.take i ++ ns ++ l2.drop (i + m)) = _
        rw [List.take_append, List.take_of_length_le (by simp only [List.length_append, List.length_take]; omega)]
        have : nn + m - (xs.take i ++ ns).length = nn - i := by simp only [List.length_append, List.length_take]; omega
        rw [this, hd2]
      · exact ⟨grown_two hg2 _, .inl rfl⟩
end Sq
end Go.Proofs.Ytmammcgdjjldbaa
