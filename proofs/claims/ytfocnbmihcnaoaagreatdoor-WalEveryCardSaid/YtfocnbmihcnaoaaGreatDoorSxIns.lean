/- Rules of our calculus for rows whose elements take one cell each: copy, append of zeros, cap, cells known as a block. Over any program. -/
import Derived.Laws.IdiomCopy
import Derived.Lib.AppendZerosOnto
import Derived.Lib.Overlaps
import Derived.Maps.AppendAt
import Derived.Test.YtfocnbmihcnaoaaGreatDoorJSxEToSxR
namespace Go.Proofs.YtfocnbmihcnaoaaGreatDoor
set_option maxRecDepth 100000
namespace Sx
open Go Go.RowKit
theorem setCells_blk {b : Nat} {e : TypeId} : ∀ (cs : List Value) (o : Nat) (l : List Value) (w : World), Blk w b l e → o + cs.length ≤ l.length → w.setCells b o cs = if cs = [] then w else w.putObj b (.cells (l.take o ++ cs ++ l.drop (o + cs.length)).toArray e)
  | [], o, l, w, h, _ => rfl
  | v :: r, o, l, w, h, hl => by
    have hl' : o < l.length := by simp at hl; omega
    rw [if_neg (by simp), World.setCells, h.set]
    have hb := Blk.put_same (w := w) h.lt (l.set o v) e
    rw [setCells_blk r (o + 1) (l.set o v) _ hb (by rw [List.length_set]; simp at hl; omega)]
    have e1 : l.set o v = l.take o ++ v :: l.drop (o + 1) := by rw [List.set_eq_take_append_cons_drop, if_pos hl']
    have e2 : ∀ m, (l.set o v).drop (o + 1 + m) = l.drop (o + 1 + m) := fun m => by rw [List.drop_set_of_lt (by omega)]
    by_cases hr : r = []
    · subst hr
      rw [if_pos rfl, e1]
      simp
    · rw [if_neg hr]
      have e3 : (l.set o v).take (o + 1) = l.take o ++ [v] := by
        rw [e1, List.take_append, List.length_take, Nat.min_eq_left (by omega), List.take_of_length_le (by rw [List.length_take]; omega)]
        simp
      rw [e2, e3]
      have : o + 1 + r.length = o + (v :: r).length := by simp; omega
      rw [this]
      have hpp : ∀ (x y : Obj), (w.putObj b x).putObj b y = w.putObj b y := fun x y => by
        unfold World.putObj
        simp
      rw [hpp]
      simp
section rules
variable {P : Program} {rd : Option Nat} {n : Nat} {ops : Array Oper} {Q : Post} {rest : List Oper} {F : Fr} {ds : List Deferred} {w : World} {ty : TypeId} {pos : String} {after : Array Edge}
/-- copy(d, s): into a block that is known whole. -/
theorem Lst_copyB {o : Option Nat} {d s : Operand} {t t' e g off dl dc sl sc : Nat} {a : Addr} {i : TypeInfo} {l cs : List Value} {T : TypeId} (hd : ev F d = .slice (some ⟨g, off, none⟩) dl dc) (hs : ev F s = .slice (some a) sl sc) (ht : P.underlying t = some (.slice e)) (hi : P.info? e = some i) (hz : i.size = 1)
    (hn : cs.length = Nat.min sl dl) (hsrc : ∀ j v, cs[j]? = some v → w.cell? (a.add j) = some v) (hb : Blk w g l T) (hl : off + cs.length ≤ l.length) (h1 : ∀ v ∈ cs, v.oneCell' = true) (ho : okd n o = true)
    (h : Lst P rd n ops Q rest (updO F o (.int .i64 (cs.length : Int))) ds (w.putObj g (.cells (l.take off ++ cs ++ l.drop (off + cs.length)).toArray T))) :
    Lst P rd n ops Q (⟨o, .call { callee := .builtin .copy, args := #[d, s], argTypes := #[t, t'] }, ty, pos, after, none⟩ :: rest) F ds w := by
  have hrun := run_copy_cells (P := P) w t t' ty e g off dl dc a sl sc cs ht (by rw [hi]; simp [hz]) hn hsrc (fun j hj => by
    rw [hb.cell, List.getElem?_eq_getElem (by omega)]; rfl) (fun j _ => hb.frozen _) h1
  rw [setCells_blk cs off l w hb hl] at hrun
  have e1 : (if cs = [] then w else w.putObj g (.cells (l.take off ++ cs ++ l.drop (off + cs.length)).toArray T)) = w.putObj g (.cells (l.take off ++ cs ++ l.drop (off + cs.length)).toArray T) := by
    split
    · rename_i hc
      subst hc
      have : l.take off ++ [] ++ l.drop (off + ([] : List Value).length) = l := by simp
      rw [this]
      unfold World.putObj
      have hw : w.heap.setIfInBounds g (.cells l.toArray T) = w.heap := by
        have hb' : w.heap[g]? = some (.cells l.toArray T (0, 0)) := hb
        obtain ⟨hlt, hv⟩ := Array.getElem?_eq_some_iff.1 hb'
        apply Array.ext
        · simp
        · intro j h1 h2
          rw [Array.getElem_setIfInBounds]
          split
          · rename_i hj; subst hj; exact hv.symm
          · rfl
      rw [hw]
    · rfl
  rw [e1] at hrun
  refine Lst_value rfl ?_ ho h
  simp [execOp, resolve, invoke, builtin, hd, hs, hrun, goInt]
/-- append(s[:k], make([]T, m)...): a new row. -/
theorem Lst_zeros {d : Nat} {s x : Operand} {t tn e sl sc k g off : Nat} {i : TypeInfo} {z : Value} {kq kn : IntKind} {olds : List Value} (hs : ev F s = .slice (some ⟨g, off, none⟩) sl sc) (hx : ev F x = .int kq (k : Int)) (ht : P.underlying t = some (.slice e)) (htn : P.underlying tn = some (.int kn)) (hi : P.info? e = some i) (hz : i.zero = some z) (hz1 : i.size = 1) (hzc : z.cells.size = 1)
    (hol : olds.length = sl) (hold : ∀ j v, olds[j]? = some v → w.cell? ⟨g, off + j, none⟩ = some v) (h0 : 0 < k) (hg : sc < sl + k) (h63 : sl + k ≤ 9223372036854775807) (hby : (sl + k) * i.bytes ≤ 140737488355328) (hd : Nat.blt d n = true)
    (h : ∀ w' cap cells, Blk w' w.heap.size cells e → cells.length = cap → sl + k ≤ cap → cap ≤ maxLen → cells.take sl = olds → w.grownBy w' none → w.heap.size < w'.heap.size → Lst P rd n ops Q rest (upd F d (.slice (some ⟨w.heap.size, 0, none⟩) (sl + k) cap)) ds w') :
    Lst P rd n ops Q (⟨some d, .call { callee := .builtin .append, args := #[s, x], argTypes := #[t, tn] }, ty, pos, after, none⟩ :: rest) F ds w := by
  have hold' : (Builtin.firstCells i.size sl (.slice (some ⟨g, off, none⟩) sl sc)).run P w.drew = .ok olds.toArray w.drew := by
    rw [hz1]
    exact run_firstCells_some (w := w.drew) 1 sl ⟨g, off, none⟩ sl sc olds (by rw [hol]; omega) (fun j v hj => by rw [add_none]; exact hold j v hj)
  have h48 : k * i.bytes ≤ 281474976710656 := by
    have : k * i.bytes ≤ (sl + k) * i.bytes := Nat.mul_le_mul_right _ (by omega)
    omega
  have hrun := Lib.run_append_grow_zeros (P := P) w t tn ty e i z kq kn ht htn hi hz (some ⟨g, off, none⟩) sl sc olds hold' k h0 (by omega) hg (by omega) h48 (growslice_fits hg hby)
  have hge := grownCap_ge w (sl + k) sc e
  have hcm : grownCap w (sl + k) sc e ≤ maxLen := grownCap_le_maxLen w (sl + k) sc e (by simp only [maxLen]; omega)
  generalize grownCap w (sl + k) sc e = G at *
  refine Lst_value rfl ?_ hd (h (w.drew.alloc (.cells (olds.toArray ++ Builtin.zeroCells z.cells k ++ Builtin.zeroCells z.cells (G - (sl + k))) e)) G (olds ++ (Builtin.zeroCells z.cells k).toList ++ (Builtin.zeroCells z.cells (G - (sl + k))).toList) ?_ ?_ hge hcm ?_ ⟨rfl, rfl, rfl, by simp, fun q hq _ => heap_alloc_old w.drew _ hq⟩ (by simp))
  · simp [execOp, resolve, invoke, builtin, hs, hx, hrun]
  · have := Blk.newE (w := w.drew) (b := w.heap.size) rfl (olds ++ (Builtin.zeroCells z.cells k).toList ++ (Builtin.zeroCells z.cells (G - (sl + k))).toList) e
    have e2 : (olds ++ (Builtin.zeroCells z.cells k).toList ++ (Builtin.zeroCells z.cells (G - (sl + k))).toList).toArray = olds.toArray ++ Builtin.zeroCells z.cells k ++ Builtin.zeroCells z.cells (G - (sl + k)) := by
      apply Array.ext'
      simp
    rw [e2] at this
    exact this
  · simp only [List.length_append, Array.length_toList, size_zeroCells, hzc, hol]
    omega
  · rw [List.append_assoc, ← hol, List.take_left]
/-- append(s, x...) where s is nil or a row of the call's own; and where the new row lies. -/
theorem Lst_appendAt {d : Nat} {s x : Operand} {t e base size bytes nn m c : Nat} {a : Addr} {i : TypeInfo} {z v : Value} {xs news : List Value} (hs : ev F s = v) (hx : ev F x = .slice (some a) m c) (ht : P.underlying t = some (.slice e)) (hi : P.info? e = some i) (hz : i.zero = some z)
    (hsize : i.size = size) (hby : i.bytes = bytes) (hzs : z.cells.size = size) (hsz : Nat.ble 1 size = true) (hown : w.ownsRow base e size v nn xs) (hnews : ∀ j u, news[j]? = some u → w.cell? (a.add j) = some u) (hl : news.length = m * size) (h1 : ∀ u ∈ news, u.oneCell' = true)
    (h63 : nn + m ≤ 9223372036854775807) (hbytes : (nn + m) * bytes ≤ 140737488355328) (hbase : base ≤ w.heap.size) (hd : Nat.blt d n = true)
    (h : ∀ v' w', w'.ownsRow base e size v' (nn + m) (xs ++ news) → w.grownBy w' v.ownBlock → (v'.ownBlock = v.ownBlock ∨ v'.ownBlock = some w.heap.size) → Lst P rd n ops Q rest (upd F d v') ds w') :
    Lst P rd n ops Q (⟨some d, .call { callee := .builtin .append, args := #[s, x], argTypes := #[t, t] }, ty, pos, after, none⟩ :: rest) F ds w := by
  have hsz' : 0 < size := by have : 1 ≤ size := by simpa using hsz
                             omega
  obtain ⟨v', w', hrun, h2, h3, _, h4⟩ := run_append_own_at (P := P) w base t ty e i z size bytes ht hi hz hsize hby hzs hsz' v nn xs hown a m c news hl hnews h1 (by simp only [maxLen]; omega) hbytes hbase
  refine Lst_value (v := v') (w' := w') rfl ?_ hd (h v' w' h2 h3 h4)
  simp [execOp, resolve, invoke, builtin, hs, hx, hrun]
theorem P_cap {x : Operand} {t e : TypeId} {b : Option Addr} {l c : Nat} (hx : ev F x = .slice b l c) (ht : P.underlying t = some (.slice e)) : Pu P F (.call { callee := .builtin .cap, args := #[x], argTypes := #[t] }) ty (.int .i64 c) := fun dst pos after w => by
  simp [execOp, resolve, invoke, builtin, hx, Builtin.cap_, goInt, run_underlying ht]
end rules
end Sx
end Go.Proofs.YtfocnbmihcnaoaaGreatDoor
