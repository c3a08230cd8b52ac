/- Rows of operations: cloned, sorted, none deleted; the runes of a text. -/
import Derived.Test.YtifkedhbelflkaaDoorOqOpG
import Derived.Laws.IdiomStrings
namespace Go.Proofs.YtifkedhbelflkaaDoor
set_option maxRecDepth 100000
namespace Utf
open Go Go.RowKit Sx
open Lib
theorem runesFrom_eq (s : ByteArray) : ∀ (fuel pos : Nat) (r : List Int) (acc : Array Value), s.size ≤ pos + fuel → runesL (s.data.toList.drop pos) = some r → Conv.runesFrom s fuel pos acc = acc ++ (r.map (Value.int .i32)).toArray
  | 0, pos, r, acc, hf, h => by
    have : s.data.toList.drop pos = [] := List.drop_eq_nil_of_le (by simp; show s.size ≤ pos; omega)
    rw [this, runesL_nil] at h
    cases h
    simp [Conv.runesFrom]
  | f + 1, pos, r, acc, hf, h => by
    unfold Conv.runesFrom
    by_cases hp : pos < s.size
    · have hne : s.data.toList.drop pos ≠ [] := by
        intro e
        have := congrArg List.length e
        rw [List.length_drop] at this
        simp at this
        have h2 : s.size - pos = 0 := this
        omega
      rw [runesL_step _ hne, decodeL_drop] at h
      by_cases hb : bad (s.data.toList.drop pos) = true
      · rw [if_pos hb] at h; cases h
      · rw [if_neg hb, List.drop_drop] at h
        obtain ⟨t, ht, rfl⟩ := Option.map_eq_some_iff.1 h
        have hw := Lib.decode_width_pos s pos hp
        rw [if_pos hp]
        show Conv.runesFrom s f (pos + (Utf8.decode s pos).2) (acc.push (.int .i32 (Int.ofNat (Utf8.decode s pos).1))) = _
        rw [runesFrom_eq s f _ t _ (by omega) ht]
        generalize Utf8.decode s pos = q
        obtain ⟨q1, q2⟩ := q
        simp
    · have : s.data.toList.drop pos = [] := List.drop_eq_nil_of_le (by simp; show s.size ≤ pos; omega)
      rw [this, runesL_nil] at h
      cases h
      rw [if_neg hp]
      simp
end Utf
namespace Sx
open Go Go.RowKit
section rules
variable {P : Program} {rd : Option Nat} {n : Nat} {ops : Array Oper} {Q : Post} {rest : List Oper} {F : Fr} {ds : List Deferred} {w : World} {ty : TypeId} {pos : String} {after : Array Edge}
theorem Lst_none {d t e B : Nat} {i : TypeInfo} (ht : P.underlying t = some (.slice e)) (hi : P.info? e = some i) (hB : w.heap.size = B) (hd : Nat.blt d n = true)
    (h : Lst P rd n ops Q rest (upd F d (.slice (some ⟨B, 0, none⟩) 0 0)) ds (w.alloc (.cells #[] e))) : Lst P rd n ops Q (⟨some d, .buildSlice t 0 #[], ty, pos, after, none⟩ :: rest) F ds w :=
  Lst_value rfl (by
    subst hB
    have hsz : (sizeOf e).run P w = .ok i.size w := by simp [sizeOf, typeInfo, hi]
    have e0 : Array.map (fun _ => (default : Value)) (Array.range 0) = #[] := by simp
    simp [execOp, Instr.buildSlice, run_underlying ht, hsz, Instr.fill, newRow]
    exact congrArg (fun x => w.alloc (.cells x e)) e0) hd h
theorem guard_slice_nil {op : BinOp} {t : TypeId} {x y : Operand} {b : Option Addr} {m c : Nat} : (eqGuard op t x y (.slice b m c) (.slice none 0 0)).run P w = .ok () w := by
  cases op <;> simp [eqGuard, Sem.run_pure]
theorem run_slice_nil {t te : TypeId} (b : Option Addr) (m c : Nat) (w : World) (ht : P.underlying t = some (.slice te)) : (Op.equal t (.slice b m c) (.slice none 0 0)).run P w = .ok b.isNone w := by
  have h : ∀ d : Nat, (Op.equalIn (d + 1) t (.slice b m c) (.slice none 0 0)).run P w = .ok b.isNone w := fun d => by
    cases b <;> simp [Op.equalIn, run_underlying ht]
  simp [Op.equal, Op.maxDepth, h 9999]
theorem P_slice_nil {t t' te : TypeId} {x y : Operand} {b : Option Addr} {m c : Nat} {r : Bool} (hx : ev F x = .slice b m c) (hy : ev F y = .slice none 0 0) (ht : P.underlying t = some (.slice te)) (hr : b.isNone = r) : Pu P F (.binOp .eql t x y t') ty (.bool r) :=
  fun _ _ _ w => bin_run hx hy guard_slice_nil (by
    subst hr
    have := run_slice_nil b m c w ht
    simp only [binOp, Sem.run_bind, this]
    rfl)
/-- []rune(s). -/
theorem Lst_torunes {d t t' e : Nat} {x : Operand} {s : ByteArray} (hx : ev F x = .string s) (ht : P.underlying t = some .string) (ht' : P.underlying t' = some (.slice e)) (he : P.underlying e = some (.int .i32)) (hs : s.size ≤ 1000000) (hv : Lib.validD s.data.toList = true) (hd : Nat.blt d n = true)
    (h : ∀ a c w', a = some ⟨w.heap.size, 0, none⟩ → (Utf.rs s.data.toList).length ≤ c → Ints w' .i32 (.slice a (Utf.rs s.data.toList).length c) (Utf.rs s.data.toList) → Below w.heap.size w w' → Lst P rd n ops Q rest (upd F d (.slice a (Utf.rs s.data.toList).length c)) ds w') :
    Lst P rd n ops Q (⟨some d, .convert t t' x, ty, pos, after, none⟩ :: rest) F ds w := by
  have e1 : Conv.runesFrom s s.size 0 #[] = ((Utf.rs s.data.toList).map (Value.int .i32)).toArray := by
    have := Utf.runesFrom_eq s s.size 0 (Utf.rs s.data.toList) #[] (by omega) (by rw [List.drop_zero]; exact Utf.runesL_some hv)
    simpa using this
  have hz : (Conv.runesFrom s s.size 0 #[]).size = (Utf.rs s.data.toList).length := by rw [e1]; simp
  have hle := Utf.rs_length s.data.toList
  have hle2 : s.data.toList.length = s.size := rfl
  have hrun := run_runes_of_string (P := P) w t t' e s ht ht' he (by omega)
  rw [hz] at hrun
  have hge := grownCap_ge w (Utf.rs s.data.toList).length 0 e
  refine Lst_value (v := _) (w' := _) rfl ?_ hd (h (some ⟨w.heap.size, 0, none⟩) _ (w.drew.alloc (.cells (((Utf.rs s.data.toList).map (Value.int .i32)) ++ List.replicate (grownCap w (Utf.rs s.data.toList).length 0 e - (Utf.rs s.data.toList).length) (Value.int .i32 0)).toArray e)) rfl hge ?_ ?_)
  · rw [e1] at hrun
    have e2 : (((Utf.rs s.data.toList).map (Value.int .i32)) ++ List.replicate (grownCap w (Utf.rs s.data.toList).length 0 e - (Utf.rs s.data.toList).length) (Value.int .i32 0)).toArray = ((Utf.rs s.data.toList).map (Value.int .i32)).toArray ++ Array.replicate (grownCap w (Utf.rs s.data.toList).length 0 e - (Utf.rs s.data.toList).length) (Value.int .i32 0) := by simp
    rw [e2]
    simp [execOp, hx, hrun]
  · refine ⟨w.heap.size, 0, _, .inl rfl, fun _ => by simp, fun j hj => ?_⟩
    have hb : Blk (w.drew.alloc (.cells (((Utf.rs s.data.toList).map (Value.int .i32)) ++ List.replicate (grownCap w (Utf.rs s.data.toList).length 0 e - (Utf.rs s.data.toList).length) (Value.int .i32 0)).toArray e)) w.heap.size _ e := Blk.new w.drew _ e
    rw [Nat.zero_add, hb.cell, List.getElem?_append_left (by simpa using hj), List.getElem?_map, List.getElem?_eq_getElem hj]
    simp
  · exact Below.alloc (Below.drew (Below.refl _ _)) (Nat.le_refl _) _
end rules
end Sx
namespace Op
open Go Go.RowKit Sx Tl Val
open Utf (rs tl Tabs cutS)
section
attribute [local irreducible] RnS
attribute [local irreducible] W Lst Qst Pu seqQ blkQ rndQ cutQ retQ Does Enters IntKind.wrap bits sb World.alloc World.putObj Blk
theorem Blk_new' (w : World) (e : TypeId) : (w.alloc (.cells #[] e)).heap[w.heap.size]? = some (.cells #[] e) := World.alloc_heap_new w _
set_option maxHeartbeats 2000000 in
theorem c_CloneO (ls : List Mo) (a : Option Addr) (c : Nat) (hl : ls.length ≤ 1000000) (w : World) (hr : SRows w 22 (.slice a ls.length c) (ls.map ocs)) : Does Tryd.prog 29 #[.slice a ls.length c] w fun v w' => OwnO w.heap.size w' v ls ∧ Below w.heap.size w w' := by
  refine Does_of (args := [.slice a ls.length c]) Tryd.func29 (by kernel_rfl) rfl rfl rfl rfl rfl ?_
  obtain ⟨b, off, cap, h1, h2⟩ := id hr
  cases a with
  | none =>
    rcases h1 with h1 | ⟨h1, h3⟩
    · cases h1
    · have hnil : ls = [] := List.map_eq_nil_iff.1 h3
      subst hnil
      (refine Ga ?_)
      apply Lst_pu
      · apply P_slice_nil
        focus rfl
        focus rfl
        focus rfl
        focus rfl
      focus rfl
      (refine Ga ?_)
      (apply retQ1; (focus rfl))
      exact ⟨OwnO.nil _ _, Bel⟩
  | some g =>
    (refine Ga ?_)
    apply Lst_pu
    · apply P_slice_nil
      focus rfl
      focus rfl
      focus rfl
      focus rfl
    focus rfl
    (refine Ga ?_)
    apply Lst_none
    focus rfl
    focus rfl
    focus rfl
    focus rfl
    (refine Ga ?_)
    have hown : OwnO w.heap.size (w.alloc (.cells #[] 31)) (.slice (some ⟨w.heap.size, 0, none⟩) 0 0) [] :=
      ⟨rfl, .inr ⟨w.heap.size, 0, #[], rfl, Nat.le_refl _, Blk_new' w _, Nat.le_refl _, Nat.zero_le _, rfl, rfl⟩⟩
    have hal : Below w.heap.size w (w.alloc (.cells #[] 31)) := Bel
    apply Lst_appendO (hown := hown) (hy := SRows.below hr hal (Nat.le_refl _))
    focus (simp only [List.length_nil]; omega)
    focus exact hal.size
    focus rfl
    focus rfl
    focus rfl
    intro v' w' ho hb
    rw [List.nil_append] at ho
    obtain ⟨y1, y2, y3, rfl⟩ := own_slice ho
    (refine Ga ?_)
    (apply retQ1; (focus rfl))
    exact ⟨ho, hal.trans (hb.mono (Nat.le_refl _))⟩
set_option maxHeartbeats 2000000 in
theorem c_del (o : Mo) (h : OkT o) (hs : o.tx.size ≤ 1000000) (w : World) (hT : Tabs w) : Does Tryd.prog 30 #[.agg (ocs o).toArray] w fun v w' => v = .bool false ∧ Below w.heap.size w w' := by
  refine Does_of (args := [.agg (ocs o).toArray]) Tryd.func30 (by kernel_rfl) rfl rfl rfl rfl rfl ?_
  unfold ocs
  (refine Ga ?_)
  refine Lst_abs (fun A => Below w.heap.size w A) Bel ?_
  rintro A bA
  (apply Lst_call; (focus rfl); (focus rfl))
  refine (c_OCheck o h hs A (hT.below bA)).mono ?_
  rintro v B ⟨rfl, hB⟩
  (refine Ga ?_)
  (apply retQ1; (focus rfl))
  exact ⟨rfl, bA.trans (hB.mono bA.size)⟩
set_option maxHeartbeats 2000000 in
theorem c_Delete (ls : List Mo) (a : Option Addr) (c : Nat) (hl : ls.length ≤ 1000000) (hok : ∀ o ∈ ls, OkT o ∧ o.tx.size ≤ 1000000) (w : World) (hT : Tabs w) (hr : SRows w 22 (.slice a ls.length c) (ls.map ocs)) : Does Tryd.prog 28 #[.slice a ls.length c, .func (.func 30) #[] #[]] w fun v w' => v = .slice a ls.length c ∧ Below w.heap.size w w' := by
  refine Does_of (args := [.slice a ls.length c, .func (.func 30) #[] #[]]) Tryd.func28 (by kernel_rfl) rfl rfl rfl rfl rfl ?_
  (refine Ga ?_)
  (apply Lst_call; (focus rfl); (focus rfl))
  refine (c_IndexO ls (fun _ => false) 30 [] a c hl w hr fun o ho A hA => c_del o (hok o ho).1 (hok o ho).2 A (hT.below hA)).mono ?_
  rintro v B ⟨⟨z, rfl, h1, _⟩, hB⟩
  rw [h1 (List.all_eq_true.2 fun _ _ => rfl)]
  (refine Ga ?_)
  (apply retQ1; (focus rfl))
  exact ⟨rfl, hB⟩
set_option maxHeartbeats 2000000 in
theorem c_eqid (a b : Mo) (w : World) : Does Tryd.prog 35 #[.agg (ocs a).toArray, .agg (ocs b).toArray] w fun v w' => v = .bool (decide (a.id = b.id)) ∧ Below w.heap.size w w' := by
  refine Does_of (args := [.agg (ocs a).toArray, .agg (ocs b).toArray]) Tryd.func35 (by kernel_rfl) rfl rfl rfl rfl rfl ?_
  unfold ocs
  (refine Ga ?_)
  apply Lst_pu
  · apply P_eqA
    focus rfl
    focus rfl
    focus kernel_rfl
    focus exact id_eq a.id b.id
    focus rfl
  focus rfl
  (refine Ga ?_)
  (apply retQ1; (focus rfl))
  exact ⟨rfl, Bel⟩
end
end Op
end Go.Proofs.YtifkedhbelflkaaDoor
