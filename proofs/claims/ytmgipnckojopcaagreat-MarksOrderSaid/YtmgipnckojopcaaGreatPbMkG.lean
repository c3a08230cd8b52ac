/- Marks: the reference's At. -/
import Derived.Test.YtmgipnckojopcaaGreatPbMkL
namespace Go.Proofs.YtmgipnckojopcaaGreat
set_option maxRecDepth 100000
namespace Sx
open Go Go.RowKit
section rules
variable {P : Program} {rd : Option Nat} {n : Nat} {ops : Array Oper} {Q : Post} {rest : List Oper} {F : Fr} {ds : List Deferred} {w : World} {ty : TypeId} {pos : String} {after : Array Edge}
/-- A struct written whole into the midst of a block. -/
theorem Lst_storeM {x y : Operand} {t e : TypeId} {i : TypeInfo} {b off : Nat} {l vs : List Value} (hx : ev F x = .pointer (some ⟨b, off, none⟩)) (hy : ev F y = .agg vs.toArray) (hi : P.info? t = some i) (hs : i.size = vs.length) (h1 : ∀ v ∈ vs, v.oneCell' = true) (hb : Blk w b l e) (hl : off + vs.length ≤ l.length)
    (h : Lst P rd n ops Q rest F ds (w.putObj b (.cells (l.take off ++ vs ++ l.drop (off + vs.length)).toArray e))) : Lst P rd n ops Q (⟨none, .store t x y, ty, pos, after, none⟩ :: rest) F ds w :=
  Lst_unit rfl (by
    have := run_storeCells_at (P := P) b off e vs 0 l.toArray w hb (by simpa using hl) h1
    have hsz : (sizeOf t).run P w = .ok vs.length w := by simp [sizeOf, typeInfo, hi, hs]
    simp only [Nat.add_zero] at this
    rw [show (l.toArray.toList.take off ++ vs ++ l.toArray.toList.drop (off + vs.length)) = l.take off ++ vs ++ l.drop (off + vs.length) from rfl] at this
    rw [hb.setRow] at this
    have hcs : (Value.agg vs.toArray).cells.size = vs.length := by simp [Value.cells]
    have hcl : (Value.agg vs.toArray).cells.toList = vs := by simp [Value.cells]
    simp [execOp, hx, hy, Instr.storeAt, Instr.sureAddr, storeVar, hsz, hcs, hcl, this]) rfl h
end rules
theorem flat_row {α : Type} {sz : Nat} {c : List α} (hc : c.length = sz) : ∀ (ls : List (List α)) (k : Nat), k < ls.length → (∀ l ∈ ls, l.length = sz) → (ls.set k c).flatten = ls.flatten.take (k * sz) ++ c ++ ls.flatten.drop (k * sz + sz)
  | l :: ls, 0, _, h => by
    have := h l (by simp)
    rw [List.set_cons_zero, List.flatten_cons, List.flatten_cons, Nat.zero_mul, List.take_zero, List.nil_append, Nat.zero_add, ← this, List.drop_left]
  | l :: ls, k + 1, hk, h => by
    have hl := h l (by simp)
    have ih := flat_row hc ls k (by simpa using hk) (fun l' h' => h l' (by simp [h']))
    rw [List.set_cons_succ, List.flatten_cons, List.flatten_cons, ih, Nat.succ_mul, List.take_append, List.drop_append, hl, List.take_of_length_le (show l.length ≤ k * sz + sz by omega), List.drop_of_length_le (show l.length ≤ k * sz + sz + sz by omega), show k * sz + sz - sz = k * sz by omega, show k * sz + sz + sz - sz = k * sz + sz by omega, List.nil_append]
    simp only [List.append_assoc]
/-- A row of structs of one's own, with one of them turned. -/
theorem own_setR {w : World} {base e sz nn : Nat} {v : Value} {ls : List (List Value)} (h : w.ownsRow base e sz v nn ls.flatten) (hs : ∀ l ∈ ls, l.length = sz) (h1 : 1 ≤ sz) {k : Nat} (hk : k < ls.length) :
    ∃ g cap l, v = .slice (some ⟨g, 0, none⟩) nn cap ∧ nn ≤ cap ∧ base ≤ g ∧ Blk w g l e ∧ k * sz + sz ≤ l.length ∧ ∀ c : List Value, c.length = sz → (w.putObj g (.cells (l.take (k * sz) ++ c ++ l.drop (k * sz + c.length)).toArray e)).ownsRow base e sz v nn (ls.set k c).flatten := by
  obtain ⟨hl, h⟩ := h
  rw [flat_len ls hs] at hl
  have hn : ls.length = nn := Nat.eq_of_mul_eq_mul_right (by omega) hl
  have hk1 : k * sz + sz ≤ nn * sz := by rw [← Nat.succ_mul]; exact Nat.mul_le_mul_right _ (by omega)
  rcases h with ⟨rfl, hx⟩ | ⟨g, cap, cur, rfl, hb, hg, hc, hm, hz, ht⟩
  · omega
  · have hcl : cur.toList.length = cap * sz := by rw [Array.length_toList]; exact hz
    have hle : nn * sz ≤ cap * sz := Nat.mul_le_mul_right _ hc
    have hset : ∀ c : List Value, c.length = sz → ∀ l' ∈ ls.set k c, l'.length = sz := fun c hc' l' hl' => by
      rcases List.mem_or_eq_of_mem_set hl' with h | rfl
      · exact hs _ h
      · exact hc'
    refine ⟨g, cap, cur.toList, rfl, hc, hb, ?_, by omega, fun c hc' => ⟨by rw [flat_len _ (hset c hc'), List.length_set, hn], .inr ⟨g, cap, _, rfl, hb, Blk.put_same (lt_of_some hg) _ _, hc, hm, ?_, ?_⟩⟩⟩
    · unfold Blk
      rw [hg]
    · rw [List.size_toArray, List.length_append, List.length_append, List.length_take, List.length_drop]
      omega
    · rw [flat_row hc' ls k hk hs, hc', ← ht]
      rw [List.take_append, List.take_append, List.take_take, List.take_take, List.length_append, List.length_take, List.drop_take, hc', hcl]
      congr 1
      · congr 1
        · congr 1
          omega
        · exact List.take_of_length_le (by omega)
      · congr 1
        omega
theorem own_setR0 {w : World} {base e sz nn : Nat} {v : Value} {ls : List (List Value)} (h : w.ownsRow base e sz v nn ls.flatten) (hs : ∀ l ∈ ls, l.length = sz) (h1 : 1 ≤ sz) {k : Nat} (hk : k < ls.length) :
    ∃ g cap l, v = .slice (some ⟨g, 0, none⟩) nn cap ∧ nn ≤ cap ∧ base ≤ g ∧ Blk w g l e ∧ 0 + k * sz + sz ≤ l.length ∧ ∀ c : List Value, c.length = sz → (w.putObj g (.cells (l.take (0 + k * sz) ++ c ++ l.drop (0 + k * sz + c.length)).toArray e)).ownsRow base e sz v nn (ls.set k c).flatten := by
  rw [Nat.zero_add]
  exact own_setR h hs h1 hk
end Sx
namespace Mk
open Go Go.RowKit Sx Tl Sq Val
theorem ocs_one (l : List Mo) : ∀ u ∈ (l.map ocs).flatten, u.oneCell' = true := fun u hu => by
  obtain ⟨r, hr, hu⟩ := List.mem_flatten.1 hu
  obtain ⟨o, _, rfl⟩ := List.mem_map.1 hr
  unfold ocs at hu
  simp only [List.mem_cons, List.not_mem_nil, or_false] at hu
  rcases hu with rfl | rfl | rfl | rfl | rfl | rfl | rfl | rfl | rfl | rfl | rfl | rfl | rfl | rfl | rfl | rfl | rfl | rfl | rfl | rfl | rfl | rfl <;> rfl
section
attribute [local irreducible] RnS
attribute [local irreducible] W Lst Qst Pu seqQ blkQ rndQ cutQ retQ Does Enters IntKind.wrap bits sb World.alloc World.putObj Blk
end
end Mk
end Go.Proofs.YtmgipnckojopcaaGreat
