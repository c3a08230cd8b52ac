/- append of bytes that are only read, to bytes of one's own; quirehelp.Copy. -/
import Derived.Laws.OwnMore
import Derived.Test.YtoljcnlmockpcaaRef1
namespace Go.Proofs.Ytoljcnlmockpcaa
set_option maxRecDepth 100000
namespace Wire
open Go Go.RowKit Sx
theorem bc_one (l : List UInt8) : ∀ u ∈ l.map bc, u.oneCell' = true := by
  intro u hu
  simp only [List.mem_map] at hu
  obtain ⟨c, _, rfl⟩ := hu
  rfl
section rules
variable {P : Program} {rd : Option Nat} {n : Nat} {ops : Array Oper} {Q : Post} {rest : List Oper} {F : Fr} {ds : List Deferred} {w : World} {ty : TypeId} {pos : String} {after : Array Edge}
theorem Lst_appendI {d : Nat} {s x : Operand} {t B : Nat} {i : TypeInfo} {z v y : Value} {l k : List UInt8} (hown : Own8 B w v l) (hs : ev F s = v) (hx : ev F x = y) (hy : Ints w .u8 y (nums k)) (ht : P.underlying t = some (.slice 5)) (hi : P.info? 5 = some i) (hz : i.zero = some z)
    (hsize : i.size = 1) (hby : i.bytes = 1) (hzs : z.cells.size = 1) (hlen : l.length + k.length ≤ 140737488355328) (hbase : B ≤ w.heap.size) (hd : Nat.blt d n = true)
    (h : ∀ v' w', Own8 B w' v' (l ++ k) → w.grownBy w' v.ownBlock → Lst P rd n ops Q rest (upd F d v') ds w') :
    Lst P rd n ops Q (⟨some d, .call { callee := .builtin .append, args := #[s, x], argTypes := #[t, t] }, ty, pos, after, none⟩ :: rest) F ds w := by
  obtain ⟨g, off, cap, h1, h2, h3⟩ := hy
  rcases h1 with rfl | ⟨⟨a0, rfl⟩, hk⟩
  · have hlk : (nums k).length = k.length := by unfold nums; rw [List.length_map]
    refine Lst_append (news := k.map bc) hs hx ht hi hz hsize hby hzs rfl hown ?_ (by rw [List.length_map, hlk]; omega) (bc_one k) (by omega) (by omega) hbase hd ?_
    · intro j u hu
      have hj : j < k.length := by
        have := (List.getElem?_eq_some_iff.1 hu).1
        simpa using this
      rw [h3 j (by omega)]
      rw [List.getElem?_map, List.getElem?_eq_getElem hj] at hu
      rw [← Option.some.inj hu]
      simp [nums, bc]
    · intro v' w' ho hg _
      refine h v' w' ?_ hg
      unfold Own8
      rw [List.length_append, List.map_append, ← hlk]
      exact ho
  · obtain rfl : k = [] := by simpa [nums] using hk
    cases a0 with
    | none =>
      have hrun := run_append_owned_none (P := P) (w := w) B t ty _ i 1 ht hi v l.length (l.map bc) hown
      refine Lst_value (v := v) (w' := w) rfl ?_ hd (h v w (by rw [List.append_nil]; exact hown) ⟨rfl, rfl, rfl, Nat.le_refl _, fun _ _ _ => rfl⟩)
      simp [execOp, resolve, invoke, builtin, hs, hx, hrun]
    | some a0 => exact Lst_append0 hs hx ht hi hz hsize hby hzs rfl hown (by simp at hlen; omega) (by simp at hlen; omega) hbase hd fun v' w' ho hg => h v' w' (by rw [List.append_nil]; exact ho) hg
end rules
attribute [local irreducible] W Lst Qst Pu seqQ blkQ rndQ cutQ retQ Does Enters IntKind.wrap bits sb World.alloc World.putObj Blk
theorem h_Copy (v : Value) (l : List UInt8) (hl : l.length ≤ 100000000) (w : World) (h : Ints w .u8 v (nums l)) : Does Try.prog 18 #[v] w fun u w' => Own8 w.heap.size w' u l ∧ Below w.heap.size w w' := by
  refine Does_of (args := [v]) Try.func18 (by kernel_rfl) rfl rfl rfl rfl rfl ?_
  (refine Ga ?_)
  apply Lst_appendI (hown := Own8.nil w.heap.size w) (hy := h)
  focus rfl
  focus rfl
  focus rfl
  focus rfl
  focus rfl
  focus rfl
  focus rfl
  focus rfl
  focus (rw [List.length_nil]; omega)
  focus exact Nat.le_refl _
  focus rfl
  intro v' w' ho hg
  have hb := Below.own (Below.refl w.heap.size w) (Own8.nil w.heap.size w) hg (Nat.le_refl _) (Nat.le_refl _)
  rw [List.nil_append] at ho
  obtain ⟨v1, v2, v3, rfl⟩ := own_slice ho
  (refine Ga ?_)
  (apply retQ1; (focus rfl))
  exact ⟨ho, hb⟩
end Wire
end Go.Proofs.Ytoljcnlmockpcaa
