/- Merged: SxR, SxIns, SxT, SxU, SxF. -/
import Derived.Test.YtmgipnckojopcaaGreatPcSxD
import Derived.Laws.OwnMore
import Derived.Laws.IdiomCopy
import Derived.Lib.AppendZerosOnto
import Derived.Lib.Overlaps
import Derived.Maps.AppendAt
import Derived.Test.YtmgipnckojopcaaGreatPcJSxEToSxMapG
import Derived.Scope
import Derived.OrdersIn
namespace Go.Proofs.YtmgipnckojopcaaGreat
set_option maxRecDepth 100000
namespace Sx
open Go Go.RowKit
section loads
variable {P : Program} {rd : Option Nat} {n : Nat} {ops : Array Oper} {Q : Post} {rest : List Oper} {F : Fr} {ds : List Deferred} {w : World} {ty : TypeId} {pos : String} {after : Array Edge}
/-- A struct read whole, wherever it lies. -/
theorem Lst_loadS' {d b off : Nat} {x : Operand} {t : TypeId} {u : TypeDesc} {i : TypeInfo} {cs : List Value} (hx : ev F x = .pointer (some ⟨b, off, none⟩)) (ht : P.underlying t = some u) (hu : u.isRow = true) (hi : P.info? t = some i) (hs : i.size = cs.length) (hc : ∀ (j : Nat) (v : Value), cs[j]? = some v → w.cell? ⟨b, off + j, none⟩ = some v) (hd : Nat.blt d n = true)
    (h : Lst P rd n ops Q rest (upd F d (.agg cs.toArray)) ds w) : Lst P rd n ops Q (⟨some d, .load t x, ty, pos, after, none⟩ :: rest) F ds w :=
  Lst_value rfl (by
    have := run_loadAt_mid (P := P) w b off t cs u hc ht hu (by rw [hi]; simp [hs])
    simp [execOp, hx, this]) hd h
end loads
/-- A slice of structs that is only read: the cells of each. -/
def SRows (w : World) (sz : Nat) (v : Value) (ls : List (List Value)) : Prop :=
  ∃ b off cap, (v = .slice (some ⟨b, off, none⟩) ls.length cap ∨ (v = .slice none 0 0 ∧ ls = [])) ∧ ∀ i (h : i < ls.length), b < w.heap.size ∧ ∀ j u, (ls[i])[j]? = some u → w.cell? ⟨b, off + i * sz + j, none⟩ = some u
theorem SRows.nil (w : World) (sz : Nat) : SRows w sz (.slice none 0 0) [] := ⟨0, 0, 0, .inr ⟨rfl, rfl⟩, fun _ h => absurd h (Nat.not_lt_zero _)⟩
theorem SRows.below {w w' : World} {sz : Nat} {v : Value} {ls : List (List Value)} {B : Nat} (h : SRows w sz v ls) (hb : Below B w w') (hB : w.heap.size ≤ B) : SRows w' sz v ls := by
  obtain ⟨b, off, cap, hf, hr⟩ := h
  refine ⟨b, off, cap, hf, fun i hi => ?_⟩
  obtain ⟨h1, h2⟩ := hr i hi
  refine ⟨Nat.lt_of_lt_of_le h1 hb.size, fun j u hu => ?_⟩
  exact (hb.cell (p := ⟨b, off + i * sz + j, none⟩) (by show b < B; omega)).trans (h2 j u hu)
theorem SRows.at {w : World} {sz nn : Nat} {a : Option Addr} {c : Nat} {ls : List (List Value)} (h : SRows w sz (.slice a nn c) ls) {i : Nat} (hi : i < ls.length) : ∃ b off, a = some ⟨b, off, none⟩ ∧ b < w.heap.size ∧ ∀ j u, (ls[i])[j]? = some u → w.cell? ⟨b, off + i * sz + j, none⟩ = some u := by
  obtain ⟨b, off, cap, hf | ⟨_, rfl⟩, hr⟩ := h
  · cases hf
    exact ⟨b, off, rfl, hr i hi⟩
  · exact absurd hi (Nat.not_lt_zero _)
theorem flat_get {sz : Nat} : ∀ (ls : List (List Value)) (i j : Nat) (hi : i < ls.length), (∀ l ∈ ls, l.length = sz) → j < sz → ls.flatten[i * sz + j]? = (ls[i])[j]?
  | l :: ls, 0, j, _, h, hj => by
    have := h l (by simp)
    rw [List.flatten_cons, Nat.zero_mul, Nat.zero_add, List.getElem?_append_left (by omega)]
    rfl
  | l :: ls, i + 1, j, hi, h, hj => by
    have hl := h l (by simp)
    rw [List.flatten_cons, Nat.succ_mul, List.getElem?_append_right (by omega), show i * sz + sz + j - l.length = i * sz + j by omega]
    exact flat_get ls i j (by simpa using hi) (fun l' h' => h l' (by simp [h'])) hj
theorem flat_len {sz : Nat} : ∀ (ls : List (List Value)), (∀ l ∈ ls, l.length = sz) → ls.flatten.length = ls.length * sz
  | [], _ => by simp
  | l :: ls, h => by
    rw [List.flatten_cons, List.length_append, flat_len ls fun l' h' => h l' (by simp [h']), h l (by simp), List.length_cons, Nat.succ_mul]
    omega
theorem SRows.of_own {w : World} {base e sz nn : Nat} {v : Value} {ls : List (List Value)} (h : w.ownsRow base e sz v nn ls.flatten) (hs : ∀ l ∈ ls, l.length = sz) (h1 : 1 ≤ sz) : SRows w sz v ls := by
  obtain ⟨hl, h⟩ := h
  rw [flat_len ls hs] at hl
  have hn : ls.length = nn := Nat.eq_of_mul_eq_mul_right (by omega) hl
  subst hn
  rcases h with ⟨rfl, hn⟩ | ⟨g, cap, cur, rfl, _, hg, _, _, hz, ht⟩
  · exact ⟨0, 0, 0, (.inr ⟨rfl, List.eq_nil_of_length_eq_zero hn⟩), fun i hi => by omega⟩
  · refine ⟨g, 0, cap, .inl rfl, fun i hi => ⟨(Array.getElem?_eq_some_iff.1 hg).1, fun j u hu => ?_⟩⟩
    have hj : j < sz := by
      have := (List.getElem?_eq_some_iff.1 hu).1
      rw [hs _ (List.getElem_mem hi)] at this
      exact this
    have hf := flat_get ls i j hi hs hj
    rw [hu, ← ht, List.getElem?_take_of_lt (by
      have : (i + 1) * sz ≤ ls.length * sz := Nat.mul_le_mul_right _ hi
      rw [Nat.succ_mul] at this
      omega)] at hf
    unfold World.cell?
    simp only [hg]
    rw [Nat.zero_add]
    simpa using hf
end Sx
namespace Sx
open Go Go.RowKit
theorem SRows.flat {w : World} {sz b off n c : Nat} {ls : List (List Value)} (h : SRows w sz (.slice (some ⟨b, off, none⟩) n c) ls) (hs : ∀ l ∈ ls, l.length = sz) (h1 : 1 ≤ sz) (j : Nat) (u : Value) (hu : ls.flatten[j]? = some u) : w.cell? ⟨b, off + j, none⟩ = some u := by
  have hj : j < ls.length * sz := by
    have := (List.getElem?_eq_some_iff.1 hu).1
    rwa [flat_len ls hs] at this
  have hi : j / sz < ls.length := (Nat.div_lt_iff_lt_mul (by omega)).2 hj
  have hr : j % sz < sz := Nat.mod_lt _ (by omega)
  have e : j / sz * sz + j % sz = j := Nat.div_add_mod' j sz
  have hf := flat_get ls (j / sz) (j % sz) hi hs hr
  rw [e, hu] at hf
  obtain ⟨b', off', ha, _, hc⟩ := h.at hi
  cases ha
  have := hc (j % sz) u hf.symm
  rwa [Nat.add_assoc, e] at this
theorem flat_set {sz : Nat} (u : Value) : ∀ (ls : List (List Value)) (i j : Nat) (hi : i < ls.length), (∀ l ∈ ls, l.length = sz) → j < sz → ls.flatten.set (i * sz + j) u = (ls.set i ((ls[i]).set j u)).flatten
  | l :: ls, 0, j, _, h, hj => by
    have := h l (by simp)
    rw [List.flatten_cons, Nat.zero_mul, Nat.zero_add, List.set_append_left _ _ (by omega)]
    rfl
  | l :: ls, i + 1, j, hi, h, hj => by
    have hl := h l (by simp)
    rw [List.flatten_cons, Nat.succ_mul, List.set_append_right _ _ (by omega), show i * sz + sz + j - l.length = i * sz + j by omega, flat_set u ls i j (by simpa using hi) (fun l' h' => h l' (by simp [h'])) hj]
    rfl
/-- A row of one's own, with one cell turned. -/
theorem own_set {w : World} {base e sz nn : Nat} {v : Value} {xs : List Value} (h : w.ownsRow base e sz v nn xs) {k : Nat} (hk : k < xs.length) :
    ∃ g cap l, v = .slice (some ⟨g, 0, none⟩) nn cap ∧ nn ≤ cap ∧ base ≤ g ∧ Blk w g l e ∧ k < l.length ∧ ∀ u, (w.putObj g (.cells (l.set k u).toArray e)).ownsRow base e sz v nn (xs.set k u) := by
  obtain ⟨hl, h⟩ := h
  rcases h with ⟨rfl, rfl⟩ | ⟨g, cap, cur, rfl, hb, hg, hc, hm, hz, ht⟩
  · omega
  · have hk2 : k < nn * sz := by omega
    have hcl : cur.toList.length = cap * sz := by rw [Array.length_toList]; exact hz
    have hle : nn * sz ≤ cap * sz := Nat.mul_le_mul_right _ hc
    refine ⟨g, cap, cur.toList, rfl, hc, hb, ?_, by omega, fun u => ⟨by rw [List.length_set]; exact hl, .inr ⟨g, cap, _, rfl, hb, Blk.put_same (lt_of_some hg) _ _, hc, hm, ?_, ?_⟩⟩⟩
    · unfold Blk
      rw [hg]
    · rw [List.size_toArray, List.length_set]
      exact hcl
    · show (cur.toList.set k u).take (nn * sz) = _
      rw [List.take_set, ht]
section rules
variable {P : Program} {rd : Option Nat} {n : Nat} {ops : Array Oper} {Q : Post} {rest : List Oper} {F : Fr} {ds : List Deferred} {w : World} {ty : TypeId} {pos : String} {after : Array Edge}
/-- append of structs that are only read. -/
theorem Lst_appendR {d : Nat} {s x : Operand} {t e B sz bytes nn : Nat} {i : TypeInfo} {z v y : Value} {xs : List Value} {ls : List (List Value)} (hown : w.ownsRow B e sz v nn xs) (hy : SRows w sz y ls) (hls : ∀ l ∈ ls, l.length = sz) (hone : ∀ u ∈ ls.flatten, u.oneCell' = true) (hs : ev F s = v) (hx : ev F x = y) (ht : P.underlying t = some (.slice e)) (hi : P.info? e = some i) (hz : i.zero = some z)
    (hsize : i.size = sz) (hby : i.bytes = bytes) (hzs : z.cells.size = sz) (h1 : Nat.ble 1 sz = true) (h63 : nn + ls.length ≤ 9223372036854775807) (hbytes : (nn + ls.length) * bytes ≤ 140737488355328) (hbase : B ≤ w.heap.size) (hd : Nat.blt d n = true)
    (h : ∀ v' w', w'.ownsRow B e sz v' (nn + ls.length) (xs ++ ls.flatten) → w.grownBy w' v.ownBlock → Lst P rd n ops Q rest (upd F d v') ds w') :
    Lst P rd n ops Q (⟨some d, .call { callee := .builtin .append, args := #[s, x], argTypes := #[t, t] }, ty, pos, after, none⟩ :: rest) F ds w := by
  have h1' : 1 ≤ sz := by simpa using h1
  obtain ⟨b, off, cap, hf | ⟨hf, hnil⟩, hr⟩ := id hy
  · subst hf
    exact Lst_append (news := ls.flatten) hs hx ht hi hz hsize hby hzs h1 hown (fun j u hu => hy.flat hls h1' j u hu) (flat_len ls hls) hone h63 hbytes hbase hd fun v' w' ho hg _ => h v' w' ho hg
  · subst hf
    subst hnil
    have hrun := run_append_owned_none (P := P) (w := w) B t ty e i sz ht hi v nn xs hown
    refine Lst_value (v := v) (w' := w) rfl ?_ hd (h v w (by rw [List.flatten_nil, List.append_nil]; exact hown) ⟨rfl, rfl, rfl, Nat.le_refl _, fun _ _ _ => rfl⟩)
    simp [execOp, resolve, invoke, builtin, hs, hx, hrun]
end rules
section q
variable {P : Program} {n : Nat} {ops : Array Oper} {C : World → Prop} {K : Fr → Prop} {rest : List Oper} {F : Fr} {ds : List Deferred} {ty : TypeId} {pos : String} {after : Array Edge}
/-- A struct read whole, in a drawn region. -/
theorem Qst_loadS {d b off : Nat} {x : Operand} {t : TypeId} {u : TypeDesc} {i : TypeInfo} {cs : List Value} (hx : ev F x = .pointer (some ⟨b, off, none⟩)) (ht : P.underlying t = some u) (hu : u.isRow = true) (hi : P.info? t = some i) (hs : i.size = cs.length) (hc : ∀ w, C w → ∀ (j : Nat) (v : Value), cs[j]? = some v → w.cell? ⟨b, off + j, none⟩ = some v) (hd : Nat.blt d n = true)
    (h : Qst P n ops C K rest (upd F d (.agg cs.toArray)) ds) : Qst P n ops C K (⟨some d, .load t x, ty, pos, after, none⟩ :: rest) F ds :=
  Qst_value rfl (fun w hw => by
    have := run_loadAt_mid (P := P) w b off t cs u (hc w hw) ht hu (by rw [hi]; simp [hs])
    simp [execOp, hx, this]) hd h
end q
end Sx
namespace Sx
open Go Go.RowKit
theorem setCells_blk {b : Nat} {e : TypeId} : ∀ (cs : List Value) (o : Nat) (l : List Value) (w : World), Blk w b l e → o + cs.length ≤ l.length → w.setCells b o cs = if cs = [] then w else w.putObj b (.cells (l.take o ++ cs ++ l.drop (o + cs.length)).toArray e)
  | [], o, l, w, h, _ => rfl
  | v :: r, o, l, w, h, hl => by
    have hl' : o < l.length := by simp at hl; omega
    rw [if_neg (by simp), World.setCells, h.set]
    have hb := Blk.put_same (w := w) h.lt (l.set o v) e
    rw [setCells_blk r (o + 1) (l.set o v) _ hb (by rw [List.length_set]; simp at hl; omega)]
    have e1 : l.set o v = l.take o ++ v :: l.drop (o + 1) := by rw [List.set_eq_take_append_cons_drop, if_pos hl']
    have e2 : ∀ m, (l.set o v).drop (o + 1 + m) = l.drop (o + 1 + m) := fun m => by rw [List.drop_set_of_lt (by omega)]
    by_cases hr : r = []
    · subst hr
      rw [if_pos rfl, e1]
      simp
    · rw [if_neg hr]
      have e3 : (l.set o v).take (o + 1) = l.take o ++ [v] := by
        rw [e1, List.take_append, List.length_take, Nat.min_eq_left (by omega), List.take_of_length_le (by rw [List.length_take]; omega)]
        simp
      rw [e2, e3]
      have : o + 1 + r.length = o + (v :: r).length := by simp; omega
      rw [this]
      have hpp : ∀ (x y : Obj), (w.putObj b x).putObj b y = w.putObj b y := fun x y => by
        unfold World.putObj
        simp
      rw [hpp]
      simp
section rules
variable {P : Program} {rd : Option Nat} {n : Nat} {ops : Array Oper} {Q : Post} {rest : List Oper} {F : Fr} {ds : List Deferred} {w : World} {ty : TypeId} {pos : String} {after : Array Edge}
/-- copy(d, s): into a block that is known whole. -/
theorem Lst_copyB {o : Option Nat} {d s : Operand} {t t' e g off dl dc sl sc : Nat} {a : Addr} {i : TypeInfo} {l cs : List Value} {T : TypeId} (hd : ev F d = .slice (some ⟨g, off, none⟩) dl dc) (hs : ev F s = .slice (some a) sl sc) (ht : P.underlying t = some (.slice e)) (hi : P.info? e = some i) (hz : i.size = 1)
    (hn : cs.length = Nat.min sl dl) (hsrc : ∀ j v, cs[j]? = some v → w.cell? (a.add j) = some v) (hb : Blk w g l T) (hl : off + cs.length ≤ l.length) (h1 : ∀ v ∈ cs, v.oneCell' = true) (ho : okd n o = true)
    (h : Lst P rd n ops Q rest (updO F o (.int .i64 (cs.length : Int))) ds (w.putObj g (.cells (l.take off ++ cs ++ l.drop (off + cs.length)).toArray T))) :
    Lst P rd n ops Q (⟨o, .call { callee := .builtin .copy, args := #[d, s], argTypes := #[t, t'] }, ty, pos, after, none⟩ :: rest) F ds w := by
  have hrun := run_copy_cells (P := P) w t t' ty e g off dl dc a sl sc cs ht (by rw [hi]; simp [hz]) hn hsrc (fun j hj => by
    rw [hb.cell, List.getElem?_eq_getElem (by omega)]; rfl) (fun j _ => hb.frozen _) h1
  rw [setCells_blk cs off l w hb hl] at hrun
  have e1 : (if cs = [] then w else w.putObj g (.cells (l.take off ++ cs ++ l.drop (off + cs.length)).toArray T)) = w.putObj g (.cells (l.take off ++ cs ++ l.drop (off + cs.length)).toArray T) := by
    split
    · rename_i hc
      subst hc
      have : l.take off ++ [] ++ l.drop (off + ([] : List Value).length) = l := by simp
      rw [this]
      unfold World.putObj
      have hw : w.heap.setIfInBounds g (.cells l.toArray T) = w.heap := by
        have hb' : w.heap[g]? = some (.cells l.toArray T (0, 0)) := hb
        obtain ⟨hlt, hv⟩ := Array.getElem?_eq_some_iff.1 hb'
        apply Array.ext
        · simp
        · intro j h1 h2
          rw [Array.getElem_setIfInBounds]
          split
          · rename_i hj; subst hj; exact hv.symm
          · rfl
      rw [hw]
    · rfl
  rw [e1] at hrun
  refine Lst_value rfl ?_ ho h
  simp [execOp, resolve, invoke, builtin, hd, hs, hrun, goInt]
/-- append(s[:k], make([]T, m)...): a new row. -/
theorem Lst_zeros {d : Nat} {s x : Operand} {t tn e sl sc k g off : Nat} {i : TypeInfo} {z : Value} {kq kn : IntKind} {olds : List Value} (hs : ev F s = .slice (some ⟨g, off, none⟩) sl sc) (hx : ev F x = .int kq (k : Int)) (ht : P.underlying t = some (.slice e)) (htn : P.underlying tn = some (.int kn)) (hi : P.info? e = some i) (hz : i.zero = some z) (hz1 : i.size = 1) (hzc : z.cells.size = 1)
    (hol : olds.length = sl) (hold : ∀ j v, olds[j]? = some v → w.cell? ⟨g, off + j, none⟩ = some v) (h0 : 0 < k) (hg : sc < sl + k) (h63 : sl + k ≤ 9223372036854775807) (hby : (sl + k) * i.bytes ≤ 140737488355328) (hd : Nat.blt d n = true)
    (h : ∀ w' cap cells, Blk w' w.heap.size cells e → cells.length = cap → sl + k ≤ cap → cap ≤ maxLen → cells.take sl = olds → w.grownBy w' none → w.heap.size < w'.heap.size → Lst P rd n ops Q rest (upd F d (.slice (some ⟨w.heap.size, 0, none⟩) (sl + k) cap)) ds w') :
    Lst P rd n ops Q (⟨some d, .call { callee := .builtin .append, args := #[s, x], argTypes := #[t, tn] }, ty, pos, after, none⟩ :: rest) F ds w := by
  have hold' : (Builtin.firstCells i.size sl (.slice (some ⟨g, off, none⟩) sl sc)).run P w.drew = .ok olds.toArray w.drew := by
    rw [hz1]
    exact run_firstCells_some (w := w.drew) 1 sl ⟨g, off, none⟩ sl sc olds (by rw [hol]; omega) (fun j v hj => by rw [add_none]; exact hold j v hj)
  have h48 : k * i.bytes ≤ 281474976710656 := by
    have : k * i.bytes ≤ (sl + k) * i.bytes := Nat.mul_le_mul_right _ (by omega)
    omega
  have hrun := Lib.run_append_grow_zeros (P := P) w t tn ty e i z kq kn ht htn hi hz (some ⟨g, off, none⟩) sl sc olds hold' k h0 (by omega) hg (by omega) h48 (growslice_fits hg hby)
  have hge := grownCap_ge w (sl + k) sc e
  have hcm : grownCap w (sl + k) sc e ≤ maxLen := grownCap_le_maxLen w (sl + k) sc e (by simp only [maxLen]; omega)
  generalize grownCap w (sl + k) sc e = G at *
  refine Lst_value rfl ?_ hd (h (w.drew.alloc (.cells (olds.toArray ++ Builtin.zeroCells z.cells k ++ Builtin.zeroCells z.cells (G - (sl + k))) e)) G (olds ++ (Builtin.zeroCells z.cells k).toList ++ (Builtin.zeroCells z.cells (G - (sl + k))).toList) ?_ ?_ hge hcm ?_ ⟨rfl, rfl, rfl, by simp, fun q hq _ => heap_alloc_old w.drew _ hq⟩ (by simp))
  · simp [execOp, resolve, invoke, builtin, hs, hx, hrun]
  · have := Blk.newE (w := w.drew) (b := w.heap.size) rfl (olds ++ (Builtin.zeroCells z.cells k).toList ++ (Builtin.zeroCells z.cells (G - (sl + k))).toList) e
    have e2 : (olds ++ (Builtin.zeroCells z.cells k).toList ++ (Builtin.zeroCells z.cells (G - (sl + k))).toList).toArray = olds.toArray ++ Builtin.zeroCells z.cells k ++ Builtin.zeroCells z.cells (G - (sl + k)) := by
      apply Array.ext'
      simp
    rw [e2] at this
    exact this
  · simp only [List.length_append, Array.length_toList, size_zeroCells, hzc, hol]
    omega
  · rw [List.append_assoc, ← hol, List.take_left]
/-- append(s, x...) where s is nil or a row of the call's own; and where the new row lies. -/
theorem Lst_appendAt {d : Nat} {s x : Operand} {t e base size bytes nn m c : Nat} {a : Addr} {i : TypeInfo} {z v : Value} {xs news : List Value} (hs : ev F s = v) (hx : ev F x = .slice (some a) m c) (ht : P.underlying t = some (.slice e)) (hi : P.info? e = some i) (hz : i.zero = some z)
    (hsize : i.size = size) (hby : i.bytes = bytes) (hzs : z.cells.size = size) (hsz : Nat.ble 1 size = true) (hown : w.ownsRow base e size v nn xs) (hnews : ∀ j u, news[j]? = some u → w.cell? (a.add j) = some u) (hl : news.length = m * size) (h1 : ∀ u ∈ news, u.oneCell' = true)
    (h63 : nn + m ≤ 9223372036854775807) (hbytes : (nn + m) * bytes ≤ 140737488355328) (hbase : base ≤ w.heap.size) (hd : Nat.blt d n = true)
    (h : ∀ v' w', w'.ownsRow base e size v' (nn + m) (xs ++ news) → w.grownBy w' v.ownBlock → (v'.ownBlock = v.ownBlock ∨ v'.ownBlock = some w.heap.size) → Lst P rd n ops Q rest (upd F d v') ds w') :
    Lst P rd n ops Q (⟨some d, .call { callee := .builtin .append, args := #[s, x], argTypes := #[t, t] }, ty, pos, after, none⟩ :: rest) F ds w := by
  have hsz' : 0 < size := by have : 1 ≤ size := by simpa using hsz
                             omega
  obtain ⟨v', w', hrun, h2, h3, _, h4⟩ := run_append_own_at (P := P) w base t ty e i z size bytes ht hi hz hsize hby hzs hsz' v nn xs hown a m c news hl hnews h1 (by simp only [maxLen]; omega) hbytes hbase
  refine Lst_value (v := v') (w' := w') rfl ?_ hd (h v' w' h2 h3 h4)
  simp [execOp, resolve, invoke, builtin, hs, hx, hrun]
theorem P_cap {x : Operand} {t e : TypeId} {b : Option Addr} {l c : Nat} (hx : ev F x = .slice b l c) (ht : P.underlying t = some (.slice e)) : Pu P F (.call { callee := .builtin .cap, args := #[x], argTypes := #[t] }) ty (.int .i64 c) := fun dst pos after w => by
  simp [execOp, resolve, invoke, builtin, hx, Builtin.cap_, goInt, run_underlying ht]
end rules
end Sx
namespace Tl
open Go Go.RowKit Sx
section rules0
variable {P : Program} {rd : Option Nat} {n : Nat} {ops : Array Oper} {Q : Post} {rest : List Oper} {F : Fr} {ds : List Deferred} {w : World} {ty : TypeId} {pos : String} {after : Array Edge}
/-- s[j:], s[:j] of a row whose elements take one cell each, written out. -/
theorem P_sl_lo {t e g o n' c : Nat} {x lo : Operand} {k : IntKind} {q : Int} {i : TypeInfo} (j : Nat) (hx : ev F x = .slice (some ⟨g, o, none⟩) n' c) (hlo : ev F lo = .int k q) (ht : P.underlying t = some (.slice e)) (hi' : P.info? e = some i) (hs : i.size = 1) (hq : q = (j : Int)) (h1 : j ≤ n') (h2 : c ≠ j) :
    Pu P F (.slice t x (some lo) none none) ty (.slice (some ⟨g, o + j, none⟩) (n' - j) (c - j)) := by
  have := P_lslice_lo (ty := ty) hx hlo ht hi' hs (by omega) (by omega)
  subst hq
  unfold sliced at this
  rw [Int.toNat_natCast, if_neg h2] at this
  simpa [add_none] using this
theorem P_sl_hi {t e g o n' c : Nat} {x hi : Operand} {k : IntKind} {q : Int} {i : TypeInfo} (j : Nat) (hx : ev F x = .slice (some ⟨g, o, none⟩) n' c) (hhi : ev F hi = .int k q) (ht : P.underlying t = some (.slice e)) (hi' : P.info? e = some i) (hs : i.size = 1) (hq : q = (j : Int)) (h1 : j ≤ c) :
    Pu P F (.slice t x none (some hi) none) ty (.slice (some ⟨g, o, none⟩) j c) := by
  have := P_lslice_hi (ty := ty) hx hhi ht hi' hs (by omega) (by omega)
  subst hq
  unfold sliced at this
  rw [Int.toNat_natCast] at this
  split at this <;> simpa [add_none] using this
/-- A call that the model answers itself, in this world. -/
theorem Lst_ext {d : Nat} {f : Operand} {as : List Operand} {g : Nat} {ts : Array TypeId} {fn : Func} {e : Array Value → Sem Value} {v : Value} (he : Extern.find fn = some e) (hf : ev F f = .func (.func g) #[] #[]) (hfn : P.funcs[g]? = some fn) (hname : (fn.name == "runtime.NumGoroutine") = false) (hb : fn.body.isNone = true) (hn : Extern.findNext fn = none)
    (hrun : (e (evs F as).toArray).run P w = .ok v w) (hd : Nat.blt d n = true) (h : Lst P rd n ops Q rest (upd F d v) ds w) : Lst P rd n ops Q (⟨some d, .call { callee := .value f, args := as.toArray, argTypes := ts }, ty, pos, after, none⟩ :: rest) F ds w := by
  have e2 := map_evs (F := F) as
  have hr : (callFunc g (evs F as).toArray).run P w = .ok (.value v) w := by rw [run_callFunc_extern hfn hname hb hn he, hrun]; rfl
  refine Lst_value (v := v) (w' := w) rfl ?_ hd h
  simp only [execOp, resolve, hf, Deferred.ofValue, invoke, Sem.run_bind, Sem.run_pure, Result.andThen, e2]
  simpa using hr
theorem rndQ_p {α : Type} {vals : α → St} {I : α → World → Prop} {μ : α → World → Nat} {m : Nat} {ds' : List Deferred} (h : ∀ c F ds w, ¬ Q (.panic c) F ds w) : ∀ c F ds w, ¬ rndQ vals I μ m Q ds' (.panic c) F ds w := fun c F ds w => h c F ds w
end rules0
theorem Qa {G G' : Prop} (k : G') (h : Box G' → G := by
  intro hkbox
  (repeat' (first | (apply Qst_nil) | (apply Qst_guard_t; (focus rfl); (focus rfl)) | (apply Qst_guard_f; (focus rfl); (focus rfl); (focus rfl); (focus rfl)) | (apply Qst_load; (focus rfl); (focus rfl); (focus rfl); (focus (intro _ hA; subst hA; (repeat (first | assumption | (apply Blk.below (hb := hb1); rotate_left; (focus ((try simp only [World.size_alloc, World.putObj_size, Sx.size_drew]); omega)); rotate_right) | (apply Blk.below (hb := hb2); rotate_left; (focus ((try simp only [World.size_alloc, World.putObj_size, Sx.size_drew]); omega)); rotate_right) | (apply Blk.below (hb := hb3); rotate_left; (focus ((try simp only [World.size_alloc, World.putObj_size, Sx.size_drew]); omega)); rotate_right) | (apply Blk.below (hb := hb4); rotate_left; (focus ((try simp only [World.size_alloc, World.putObj_size, Sx.size_drew]); omega)); rotate_right) | (apply Blk.below (hb := hb5); rotate_left; (focus ((try simp only [World.size_alloc, World.putObj_size, Sx.size_drew]); omega)); rotate_right) | (apply Blk.below (hb := hb6); rotate_left; (focus ((try simp only [World.size_alloc, World.putObj_size, Sx.size_drew]); omega)); rotate_right) | (apply Blk.below (hb := hb7); rotate_left; (focus ((try simp only [World.size_alloc, World.putObj_size, Sx.size_drew]); omega)); rotate_right) | (apply Blk.below (hb := hb8); rotate_left; (focus ((try simp only [World.size_alloc, World.putObj_size, Sx.size_drew]); omega)); rotate_right) | (apply Blk.below (hb := hb9); rotate_left; (focus ((try simp only [World.size_alloc, World.putObj_size, Sx.size_drew]); omega)); rotate_right) | exact Blk.newE (by first | rfl | ((try simp only [World.size_alloc, World.putObj_size, Sx.size_drew]); first | done | omega)) _ _ | exact Blk.put_same (by (try simp only [World.size_alloc, World.putObj_size, Sx.size_drew]); first | done | omega) _ _ | (apply Blk.put_ne; (focus omega)) | apply Blk.alloc | apply Blk.drew)); done)); (focus rfl); (focus rfl)) | (apply Qst_loadc; (focus rfl); (focus rfl); (focus rfl); (focus (intro _ hA; subst hA; assumption)); (focus rfl)) | (apply Qst_pu; (focus (first | (apply P_move; (focus constructor)) | (apply P_assign; (focus constructor)) | (apply P_ar; (focus rfl); (focus rfl); (focus rfl); (focus (first | assumption | exact wi64 (by omega) (by omega) | exact wu64 (by omega) (by omega) | exact wi32 (by omega) (by omega) | exact wu8 (by omega) (by omega) | rfl))) | (apply P_ct; (focus rfl); (focus rfl); (focus rfl); (focus (dsimp only [cmpP]; first | done | omega))) | (apply P_cf; (focus rfl); (focus rfl); (focus rfl); (focus (dsimp only [cmpP]; first | done | omega))) | (apply P_pick_t; (focus rfl); (focus constructor)) | (apply P_pick_f; (focus rfl); (focus constructor)) | (apply P_extract; (focus rfl); (focus rfl)) | (apply P_not; (focus rfl); (focus rfl)) | (apply P_slen; (focus rfl); (focus rfl)) | (apply P_llen; (focus rfl); (focus rfl)) | (apply P_bne; (focus rfl); (focus rfl); (focus rfl); (focus (first | exact bne_self_eq_false _ | rfl))) | (apply P_max; (focus rfl); (focus rfl)) | (apply P_idx1; (focus rfl); (focus rfl); (focus rfl); (focus rfl); (focus rfl); (focus omega)) | (apply P_nilCheck; (focus rfl)) | (apply P_conv; (focus rfl); (focus rfl); (focus rfl); (focus (first | assumption | exact wi64 (by omega) (by omega) | exact wu64 (by omega) (by omega) | exact wi32 (by omega) (by omega) | exact wu8 (by omega) (by omega) | rfl))) | (apply P_sindex0; (focus rfl); (focus rfl); (focus rfl); (focus omega)) | (apply P_sindexN; (focus rfl); (focus rfl); (focus rfl); (focus omega)) | (apply P_sindex; (focus rfl); (focus rfl); (focus rfl); (focus omega); (focus omega)) | (apply P_makeFunc; (focus (repeat constructor)); (focus (repeat constructor))) | (apply P_seq_t; (focus rfl); (focus rfl); (focus (first | assumption | rfl))) | (apply P_seq_f; (focus rfl); (focus rfl); (focus assumption)) | (apply P_sne_t; (focus rfl); (focus rfl); (focus assumption)) | (apply P_sne_f; (focus rfl); (focus rfl); (focus (first | assumption | rfl))) | (apply P_faddr; (focus rfl); (focus rfl); (focus rfl); (focus rfl); (focus rfl); (focus rfl); (focus (first | (simp only [Nat.zero_add, Nat.add_zero, List.getElem_toArray, List.getElem_cons_zero, List.getElem_cons_succ]; rfl) | rfl))) | (apply P_fieldA; (focus rfl); (focus rfl); (focus rfl); (focus rfl); (focus rfl); (focus rfl); (focus rfl); (focus rfl); (focus (repeat constructor))) | (apply P_build; (focus rfl); (focus rfl); (focus rfl); (focus rfl); (focus rfl); (focus (repeat (first | apply FillO.nil | (apply FillO.cons; (focus constructor); (focus rfl); (focus rfl); (focus (repeat constructor))))))) | (apply P_eqA; (focus rfl); (focus rfl); (focus (kernel_rfl)); (focus (first | (apply Eqv_int_t; (focus rfl); (focus (first | rfl | omega))) | (apply Eqv_int_f; (focus rfl); (focus omega)) | (apply Eqv_str_t; (focus rfl); (focus (first | rfl | assumption))) | (apply Eqv_str_f; (focus rfl); (focus assumption)) | (apply Eqv_bool; (focus rfl); (focus (first | exact beq_self_eq_true _ | rfl))) | (apply Eqv_struct; (focus rfl); (focus (first | rfl | kernel_rfl)); (repeat (first | exact EqvF_nil | (apply EqvF_t; (focus rfl); (focus (first | (apply PartR_1; (focus rfl); (focus rfl); (focus rfl)) | (apply PartR_A; (focus rfl); (focus rfl); (focus rfl); (focus rfl); (focus (repeat constructor))))); (focus (first | (apply PartR_1; (focus rfl); (focus rfl); (focus rfl)) | (apply PartR_A; (focus rfl); (focus rfl); (focus rfl); (focus rfl); (focus (repeat constructor))))); (focus (first | (apply Eqv_int_t; (focus rfl); (focus (first | rfl | omega))) | (apply Eqv_int_f; (focus rfl); (focus omega)) | (apply Eqv_str_t; (focus rfl); (focus (first | rfl | assumption))) | (apply Eqv_str_f; (focus rfl); (focus assumption)) | (apply Eqv_bool; (focus rfl); (focus (first | exact beq_self_eq_true _ | rfl))) | (apply Eqv_struct; (focus rfl); (focus (first | rfl | kernel_rfl)); (repeat (first | exact EqvF_nil | (apply EqvF_t; (focus rfl); (focus (first | (apply PartR_1; (focus rfl); (focus rfl); (focus rfl)) | (apply PartR_A; (focus rfl); (focus rfl); (focus rfl); (focus rfl); (focus (repeat constructor))))); (focus (first | (apply PartR_1; (focus rfl); (focus rfl); (focus rfl)) | (apply PartR_A; (focus rfl); (focus rfl); (focus rfl); (focus rfl); (focus (repeat constructor))))); (focus (first | (apply Eqv_int_t; (focus rfl); (focus (first | rfl | omega))) | (apply Eqv_int_f; (focus rfl); (focus omega)) | (apply Eqv_str_t; (focus rfl); (focus (first | rfl | assumption))) | (apply Eqv_str_f; (focus rfl); (focus assumption)) | (apply Eqv_bool; (focus rfl); (focus (first | exact beq_self_eq_true _ | rfl)))))) | (apply EqvF_f; (focus rfl); (focus (first | (apply PartR_1; (focus rfl); (focus rfl); (focus rfl)) | (apply PartR_A; (focus rfl); (focus rfl); (focus rfl); (focus rfl); (focus (repeat constructor))))); (focus (first | (apply PartR_1; (focus rfl); (focus rfl); (focus rfl)) | (apply PartR_A; (focus rfl); (focus rfl); (focus rfl); (focus rfl); (focus (repeat constructor))))); (focus (first | (apply Eqv_int_t; (focus rfl); (focus (first | rfl | omega))) | (apply Eqv_int_f; (focus rfl); (focus omega)) | (apply Eqv_str_t; (focus rfl); (focus (first | rfl | assumption))) | (apply Eqv_str_f; (focus rfl); (focus assumption)) | (apply Eqv_bool; (focus rfl); (focus (first | exact beq_self_eq_true _ | rfl)))))))))))) | (apply EqvF_f; (focus rfl); (focus (first | (apply PartR_1; (focus rfl); (focus rfl); (focus rfl)) | (apply PartR_A; (focus rfl); (focus rfl); (focus rfl); (focus rfl); (focus (repeat constructor))))); (focus (first | (apply PartR_1; (focus rfl); (focus rfl); (focus rfl)) | (apply PartR_A; (focus rfl); (focus rfl); (focus rfl); (focus rfl); (focus (repeat constructor))))); (focus (first | (apply Eqv_int_t; (focus rfl); (focus (first | rfl | omega))) | (apply Eqv_int_f; (focus rfl); (focus omega)) | (apply Eqv_str_t; (focus rfl); (focus (first | rfl | assumption))) | (apply Eqv_str_f; (focus rfl); (focus assumption)) | (apply Eqv_bool; (focus rfl); (focus (first | exact beq_self_eq_true _ | rfl))) | (apply Eqv_struct; (focus rfl); (focus (first | rfl | kernel_rfl)); (repeat (first | exact EqvF_nil | (apply EqvF_t; (focus rfl); (focus (first | (apply PartR_1; (focus rfl); (focus rfl); (focus rfl)) | (apply PartR_A; (focus rfl); (focus rfl); (focus rfl); (focus rfl); (focus (repeat constructor))))); (focus (first | (apply PartR_1; (focus rfl); (focus rfl); (focus rfl)) | (apply PartR_A; (focus rfl); (focus rfl); (focus rfl); (focus rfl); (focus (repeat constructor))))); (focus (first | (apply Eqv_int_t; (focus rfl); (focus (first | rfl | omega))) | (apply Eqv_int_f; (focus rfl); (focus omega)) | (apply Eqv_str_t; (focus rfl); (focus (first | rfl | assumption))) | (apply Eqv_str_f; (focus rfl); (focus assumption)) | (apply Eqv_bool; (focus rfl); (focus (first | exact beq_self_eq_true _ | rfl)))))) | (apply EqvF_f; (focus rfl); (focus (first | (apply PartR_1; (focus rfl); (focus rfl); (focus rfl)) | (apply PartR_A; (focus rfl); (focus rfl); (focus rfl); (focus rfl); (focus (repeat constructor))))); (focus (first | (apply PartR_1; (focus rfl); (focus rfl); (focus rfl)) | (apply PartR_A; (focus rfl); (focus rfl); (focus rfl); (focus rfl); (focus (repeat constructor))))); (focus (first | (apply Eqv_int_t; (focus rfl); (focus (first | rfl | omega))) | (apply Eqv_int_f; (focus rfl); (focus omega)) | (apply Eqv_str_t; (focus rfl); (focus (first | rfl | assumption))) | (apply Eqv_str_f; (focus rfl); (focus assumption)) | (apply Eqv_bool; (focus rfl); (focus (first | exact beq_self_eq_true _ | rfl))))))))))))))))); (focus rfl)) | (apply P_neA; (focus rfl); (focus rfl); (focus (kernel_rfl)); (focus (first | (apply Eqv_int_t; (focus rfl); (focus (first | rfl | omega))) | (apply Eqv_int_f; (focus rfl); (focus omega)) | (apply Eqv_str_t; (focus rfl); (focus (first | rfl | assumption))) | (apply Eqv_str_f; (focus rfl); (focus assumption)) | (apply Eqv_bool; (focus rfl); (focus (first | exact beq_self_eq_true _ | rfl))) | (apply Eqv_struct; (focus rfl); (focus (first | rfl | kernel_rfl)); (repeat (first | exact EqvF_nil | (apply EqvF_t; (focus rfl); (focus (first | (apply PartR_1; (focus rfl); (focus rfl); (focus rfl)) | (apply PartR_A; (focus rfl); (focus rfl); (focus rfl); (focus rfl); (focus (repeat constructor))))); (focus (first | (apply PartR_1; (focus rfl); (focus rfl); (focus rfl)) | (apply PartR_A; (focus rfl); (focus rfl); (focus rfl); (focus rfl); (focus (repeat constructor))))); (focus (first | (apply Eqv_int_t; (focus rfl); (focus (first | rfl | omega))) | (apply Eqv_int_f; (focus rfl); (focus omega)) | (apply Eqv_str_t; (focus rfl); (focus (first | rfl | assumption))) | (apply Eqv_str_f; (focus rfl); (focus assumption)) | (apply Eqv_bool; (focus rfl); (focus (first | exact beq_self_eq_true _ | rfl))) | (apply Eqv_struct; (focus rfl); (focus (first | rfl | kernel_rfl)); (repeat (first | exact EqvF_nil | (apply EqvF_t; (focus rfl); (focus (first | (apply PartR_1; (focus rfl); (focus rfl); (focus rfl)) | (apply PartR_A; (focus rfl); (focus rfl); (focus rfl); (focus rfl); (focus (repeat constructor))))); (focus (first | (apply PartR_1; (focus rfl); (focus rfl); (focus rfl)) | (apply PartR_A; (focus rfl); (focus rfl); (focus rfl); (focus rfl); (focus (repeat constructor))))); (focus (first | (apply Eqv_int_t; (focus rfl); (focus (first | rfl | omega))) | (apply Eqv_int_f; (focus rfl); (focus omega)) | (apply Eqv_str_t; (focus rfl); (focus (first | rfl | assumption))) | (apply Eqv_str_f; (focus rfl); (focus assumption)) | (apply Eqv_bool; (focus rfl); (focus (first | exact beq_self_eq_true _ | rfl)))))) | (apply EqvF_f; (focus rfl); (focus (first | (apply PartR_1; (focus rfl); (focus rfl); (focus rfl)) | (apply PartR_A; (focus rfl); (focus rfl); (focus rfl); (focus rfl); (focus (repeat constructor))))); (focus (first | (apply PartR_1; (focus rfl); (focus rfl); (focus rfl)) | (apply PartR_A; (focus rfl); (focus rfl); (focus rfl); (focus rfl); (focus (repeat constructor))))); (focus (first | (apply Eqv_int_t; (focus rfl); (focus (first | rfl | omega))) | (apply Eqv_int_f; (focus rfl); (focus omega)) | (apply Eqv_str_t; (focus rfl); (focus (first | rfl | assumption))) | (apply Eqv_str_f; (focus rfl); (focus assumption)) | (apply Eqv_bool; (focus rfl); (focus (first | exact beq_self_eq_true _ | rfl)))))))))))) | (apply EqvF_f; (focus rfl); (focus (first | (apply PartR_1; (focus rfl); (focus rfl); (focus rfl)) | (apply PartR_A; (focus rfl); (focus rfl); (focus rfl); (focus rfl); (focus (repeat constructor))))); (focus (first | (apply PartR_1; (focus rfl); (focus rfl); (focus rfl)) | (apply PartR_A; (focus rfl); (focus rfl); (focus rfl); (focus rfl); (focus (repeat constructor))))); (focus (first | (apply Eqv_int_t; (focus rfl); (focus (first | rfl | omega))) | (apply Eqv_int_f; (focus rfl); (focus omega)) | (apply Eqv_str_t; (focus rfl); (focus (first | rfl | assumption))) | (apply Eqv_str_f; (focus rfl); (focus assumption)) | (apply Eqv_bool; (focus rfl); (focus (first | exact beq_self_eq_true _ | rfl))) | (apply Eqv_struct; (focus rfl); (focus (first | rfl | kernel_rfl)); (repeat (first | exact EqvF_nil | (apply EqvF_t; (focus rfl); (focus (first | (apply PartR_1; (focus rfl); (focus rfl); (focus rfl)) | (apply PartR_A; (focus rfl); (focus rfl); (focus rfl); (focus rfl); (focus (repeat constructor))))); (focus (first | (apply PartR_1; (focus rfl); (focus rfl); (focus rfl)) | (apply PartR_A; (focus rfl); (focus rfl); (focus rfl); (focus rfl); (focus (repeat constructor))))); (focus (first | (apply Eqv_int_t; (focus rfl); (focus (first | rfl | omega))) | (apply Eqv_int_f; (focus rfl); (focus omega)) | (apply Eqv_str_t; (focus rfl); (focus (first | rfl | assumption))) | (apply Eqv_str_f; (focus rfl); (focus assumption)) | (apply Eqv_bool; (focus rfl); (focus (first | exact beq_self_eq_true _ | rfl)))))) | (apply EqvF_f; (focus rfl); (focus (first | (apply PartR_1; (focus rfl); (focus rfl); (focus rfl)) | (apply PartR_A; (focus rfl); (focus rfl); (focus rfl); (focus rfl); (focus (repeat constructor))))); (focus (first | (apply PartR_1; (focus rfl); (focus rfl); (focus rfl)) | (apply PartR_A; (focus rfl); (focus rfl); (focus rfl); (focus rfl); (focus (repeat constructor))))); (focus (first | (apply Eqv_int_t; (focus rfl); (focus (first | rfl | omega))) | (apply Eqv_int_f; (focus rfl); (focus omega)) | (apply Eqv_str_t; (focus rfl); (focus (first | rfl | assumption))) | (apply Eqv_str_f; (focus rfl); (focus assumption)) | (apply Eqv_bool; (focus rfl); (focus (first | exact beq_self_eq_true _ | rfl))))))))))))))))); (focus rfl)) | (apply P_lslice_hi; (focus rfl); (focus rfl); (focus rfl); (focus rfl); (focus rfl); (focus omega); (focus omega)) | (apply P_lslice_lo; (focus rfl); (focus rfl); (focus rfl); (focus rfl); (focus rfl); (focus omega); (focus omega)) | (apply P_sslice_lo; (focus rfl); (focus rfl); (focus rfl); (focus omega); (focus omega)))); (focus rfl))))
  exact Box.out hkbox) : G := h ⟨k⟩
section rules
variable {P : Program} {rd : Option Nat} {n : Nat} {Q : Post} {F : Fr} {ds : List Deferred} {w : World}
theorem W_post {Q' : Post} {x : Code} (h : W P rd n x Q F ds w) (hm : ∀ e F ds w, Q e F ds w → Q' e F ds w) : W P rd n x Q' F ds w := fun m a hf =>
  Code.wpIn_mono (fun e a w hq => by
    obtain ⟨G, ds', hg, hq⟩ := hq
    exact ⟨G, ds', hg, hm _ _ _ _ hq⟩) (h m a hf)
theorem cut_seq {α : Type} {vals : α → St} {M : α → World → Prop} {y : Code} (h2 : ∀ (J : Fr) (g : α) (w' : World), M g w' → W P rd n y Q (fr J (vals g)) ds w') : ∀ e F ds' w, cutQ vals M Q ds e F ds' w → seqQ P rd n y Q e F ds' w := by
  intro e F ds' w h
  cases e with
  | normal =>
    obtain ⟨rfl, g, hm, hv⟩ := h
    exact fun m a hf => h2 F g w hm m a (hf.congr (fr_has hv))
  | _ => exact h
theorem W_cutS {α : Type} (vals : α → St) (M : α → World → Prop) {x y : Code} (h1 : W P rd n x (cutQ vals M Q ds) F ds w)
    (h2 : ∀ (J : Fr) (g : α) (w' : World), M g w' → W P rd n y Q (fr J (vals g)) ds w') : W P rd n x (seqQ P rd n y Q) F ds w := W_post h1 (cut_seq h2)
theorem W_cutB {α : Type} (vals : α → St) (M : α → World → Prop) {x y : Code} {id : Nat} (h1 : W P rd n x (blkQ id (cutQ vals M Q ds)) F ds w)
    (h2 : ∀ (J : Fr) (g : α) (w' : World), M g w' → W P rd n y Q (fr J (vals g)) ds w') : W P rd n x (blkQ id (seqQ P rd n y Q)) F ds w := W_post h1 fun e F ds' w h => by
  cases e with
  | exit i =>
    unfold blkQ at h ⊢
    cases hb : Nat.beq i id with
    | true => simp only [hb, cond_true] at h ⊢; exact cut_seq h2 _ _ _ _ h
    | false => simp only [hb, cond_false] at h ⊢; exact cut_seq h2 _ _ _ _ h
  | _ =>
    unfold blkQ at h ⊢
    exact cut_seq h2 _ _ _ _ h
theorem cutQ_p {α : Type} {vals : α → St} {M : α → World → Prop} {ds' : List Deferred} (h : ∀ c F ds w, ¬ Q (.panic c) F ds w) : ∀ c F ds w, ¬ cutQ vals M Q ds' (.panic c) F ds w := fun c F ds w => h c F ds w
/-- A cut behind two pieces of code. -/
theorem W_cut2 {α : Type} (vals : α → St) (M : α → World → Prop) {x y z : Code} (h1 : W P rd n x (seqQ P rd n y (cutQ vals M Q ds)) F ds w)
    (h2 : ∀ (J : Fr) (g : α) (w' : World), M g w' → W P rd n z Q (fr J (vals g)) ds w') : W P rd n x (seqQ P rd n (.seq y z) Q) F ds w := W_post h1 fun e F ds' w h => by
  cases e with
  | normal => exact W_seq (W_post h (cut_seq h2))
  | _ => exact h
end rules
theorem W_scope {P : Program} {n : Nat} {Q : Post} {F : Fr} {ds : List Deferred} {w : World} {c : Code} (hg : ∀ l F ds w, ¬ Q (.goto l) F ds w) (h : W P none n c Q F ds w) : W P none n (.scope c) Q F ds w := fun m a hf => by
  have h1 := wpIn_wide.1 (show c.wpIn Fence.wide m P (lift n Q) a w from h m a hf)
  refine wpIn_wide.2 (wp_scope_straight (Code.wp_mono ?_ h1))
  intro e a' w' hq
  cases e with
  | goto l =>
    obtain ⟨G, ds', _, hq⟩ := hq
    exact absurd hq (hg l G ds' w')
  | _ => exact hq
end Tl
namespace Sx
open Go Go.RowKit
/-! ### A range whose parameters lie in boxes -/
def asgA (B : Nat) (Kp : World → World → Prop) (vals : Nat → St) (I' : Nat → World → Prop) (A : World) : Post
  | .normal, F, ds, A' => ds = [] ∧ ∃ x, Has F (vals x) ∧ I' x A' ∧ KeepsFrom B A A' ∧ Kp A A'
  | _, _, _, _ => False
section rangeA
variable {P : Program} {n : Nat} {Q : Post} {F : Fr} {ds : List Deferred} {w : World}
theorem W_rangeA {g : Operand} {ps : List Nat} {assign body : Code} {gf : Nat} {lb : Array Value} (m : Nat) (enc : Nat → List Value) (Kp : World → World → Prop)
    (hg : ev F g = .func (.func gf) #[] lb) (hen : Enters P gf) (hps : okPs n ps = true) (hlen : ∀ k, (enc k).length = ps.length)
    (hseq : Gives P gf lb m (fun k => (enc k).toArray) Kp w) (hKt : ∀ {A B C : World}, Kp A B → Kp B C → Kp A C)
    (hKb : ∀ (A : World) (l : Nat) (r r' : Loop), w.heap.size ≤ l → A.heap[l]? = some (.loop r) → Kp A (A.putObj l (.loop r')))
    (I : Nat → World → Prop) (Ix : Code → Nat → World → Prop) (hI : ∀ k A A', I k A → Calm w.heap.size A A' → I k A') (hIx : ∀ c k A A', Ix c k A → Calm w.heap.size A A' → Ix c k A') (h0 : I 0 w)
    (vals : Nat → Nat → St) (I' : Nat → Nat → World → Prop) (hI' : ∀ k x A A', I' k x A → Calm w.heap.size A A' → I' k x A')
    (hasg : ∀ l k A, k < m → I k A → W P (some l) n assign (asgA w.heap.size Kp (vals k) (I' k) A) (params F ps (enc k)) [] A)
    (hbody : ∀ l k x J A, k < m → I' k x A → W P (some l) n body (bodyQ w.heap.size Kp I Ix k A) (fr J (vals k x)) [] A)
    (hdone : ∀ D A, w.heap.size ≤ D → I m A → A.heap[D]? = some (.deferred (some [])) → Q .normal F ({ target := .collected D, args := #[] } :: ds) A)
    (hstop : ∀ D c k A, w.heap.size ≤ D → 0 < k → k ≤ m → Ix c k A → A.heap[D]? = some (.deferred (some [])) → W P none n c Q F ({ target := .collected D, args := #[] } :: ds) A) :
    W P none n (.rangeFunc g ps.toArray assign body) Q F ds w := fun r a hf => by
  show (Code.rangeFunc g ps.toArray assign body).wpIn Fence.wide r P (lift n Q) a w
  refine wpIn_rangeFunc ?_
  intro fn _
  let rec_ : LoopState → Option Code → Loop := fun st pe => { state := st, pending := pe, fn, tmps := a.tmps, params := ps.toArray, assign, body, defers := w.heap.size }
  obtain ⟨W1, hW1⟩ : ∃ W1, (w.alloc (.deferred (some []))).alloc (.loop (rec_ .ready none)) = W1 := ⟨_, rfl⟩
  have hL1 : W1.heap[w.heap.size + 1]? = some (.loop (rec_ .ready none)) := by
    rw [← hW1]
    have := World.alloc_heap_new (w.alloc (.deferred (some []))) (.loop (rec_ .ready none))
    rwa [World.size_alloc] at this
  have hK1 : W1.heap[w.heap.size]? = some (.deferred (some [])) := by
    rw [← hW1]
    exact (Below.heap_alloc _ _ _ (by simp)).trans (World.alloc_heap_new w _)
  have hc1 : Calm w.heap.size w W1 := by rw [← hW1]; exact (Calm.alloc _ _ _).trans (Calm.alloc _ _ _)
  have hb1 : Below w.heap.size w W1 := by
    rw [← hW1]
    exact ((Below.refl _ w).alloc (Nat.le_refl _) _).alloc (by simp) _
  have hs1 : W1.heap.size = w.heap.size + 2 := by rw [← hW1]; simp
  have hga : a.eval g = .func (.func gf) #[] lb := by rw [hf.eval]; exact hg
  refine ⟨w.heap.size + 1, [{ target := .collected w.heap.size, args := #[] }], W1, { target := .fn (.func gf) lb, args := #[.func (.yield (w.heap.size + 1)) #[] #[]] }, W1, gf,
    #[.func (.yield (w.heap.size + 1)) #[] #[]] ++ lb, W1, ?_, ?_, (fun _ _ => trivial), ?_, (fun h => (by cases h)), ?_⟩
  · rw [← hW1]; exact run_enterLoop_outer _ _ _ _ _
  · simp only [resolve, hga]
    simp [go_sem]
  · simp only [invoke]; exact hen _ _
  · refine callsIn_wide.2 ?_
    have hst : ∀ (J : Nat → World → Prop) (f : Code → Prop), True := fun _ _ => trivial
    clear hst
    refine (hseq (w.heap.size + 1)
      (fun k A => I k A ∧ A.heap[w.heap.size + 1]? = some (.loop (rec_ .ready none)) ∧ A.heap[w.heap.size]? = some (.deferred (some [])))
      (fun k A => ∃ c, Ix c k A ∧ A.heap[w.heap.size + 1]? = some (.loop (rec_ .done (some c))) ∧ A.heap[w.heap.size]? = some (.deferred (some [])))
      W1 hb1
      (fun k A A' h hc => ⟨hI k A A' h.1 (hc.calm (by omega)), hc.same _ _ h.2.1 (.inr rfl), hc.same _ _ h.2.2 (.inr rfl)⟩)
      (fun k A A' ⟨c, h1, h2, h3⟩ hc => ⟨c, hIx c k A A' h1 (hc.calm (by omega)), hc.same _ _ h2 (.inr rfl), hc.same _ _ h3 (.inr rfl)⟩)
      ?_ ⟨hI _ _ _ h0 hc1, hL1, hK1⟩).mono ?_
    · rintro k A hk ⟨hi, hl, hd⟩
      have hy := run_yield (P := P) (args := (enc k).toArray) hl (by simp [rec_, hlen])
      refine ⟨fn, _, assign, body, hy, ?_⟩
      refine roundIn_of_wpIn (F := Fence.wide) trivial ?_
      have hfit : Fits n (params F ps (enc k)) [] ⟨(ps.zip (enc k)).foldl (fun t x => t.setIfInBounds x.1 x.2) a.tmps, []⟩ :=
        Fits.params ps (enc k) hps ⟨hf.size, rfl, hf.slot⟩
      have ha := hasg (w.heap.size + 1) k A hk hi 0 _ hfit
      have e : (((ps.toArray.zip (enc k).toArray).foldl (fun tmps (x : Nat × Value) => tmps.setIfInBounds x.1 x.2) a.tmps)) = (ps.zip (enc k)).foldl (fun t x => t.setIfInBounds x.1 x.2) a.tmps := by simp
      show assign.wpIn (Fence.wide.inRound (w.heap.size + 1)) 0 P _ { tmps := (ps.toArray.zip (enc k).toArray).foldl (fun tmps (x : Nat × Value) => tmps.setIfInBounds x.1 x.2) a.tmps, defers := [] } A
      rw [e]
      refine Code.wpIn_mono ?_ ha
      rintro e a1 A1 ⟨F1, ds1, hf1, hq⟩
      cases e with
      | normal =>
        obtain ⟨rfl, x, hv, hi', hkf, hkp0⟩ := hq
        have hl0 := hkf.same (w.heap.size + 1) _ (Nat.le_succ _) hl rfl
        have hd0 := hkf.same w.heap.size _ (Nat.le_refl _) hd rfl
        have hlt := lt_of_some hl0
        refine ⟨_, run_beginRound hl0 rfl, ?_⟩
        have hl2 : (A1.putObj (w.heap.size + 1) (.loop { rec_ .ready none with state := .busy })).heap[w.heap.size + 1]? = some (.loop { rec_ .ready none with state := .busy }) := World.putObj_heap_same hlt
        have hd2 : (A1.putObj (w.heap.size + 1) (.loop { rec_ .ready none with state := .busy })).heap[w.heap.size]? = some (.deferred (some [])) := (World.putObj_heap_other (by omega)).trans hd0
        have hp2 := hKb A1 (w.heap.size + 1) _ { rec_ .ready none with state := .busy } (by omega) hl0
        have hb := hbody (w.heap.size + 1) k x F1 _ hk (hI' _ _ _ _ hi' (Calm.put (.loop { rec_ .ready none with state := .busy }) hl0 (by omega) rfl)) 0 a1 (hf1.congr (fr_has hv))
        refine Code.wpIn_mono ?_ hb
        have fin : ∀ (jump : Option Code) (A3 : World), KeepsFrom w.heap.size (A1.putObj (w.heap.size + 1) (.loop { rec_ .ready none with state := .busy })) A3 →
            (Instr.endRound (w.heap.size + 1) jump).run P A3 = .ok (.bool jump.isNone) (A3.putObj (w.heap.size + 1) (.loop (rec_ (if jump.isNone then .ready else .done) jump))) ∧
            A3.heap[w.heap.size + 1]? = some (.loop { rec_ .ready none with state := .busy }) ∧
            (A3.putObj (w.heap.size + 1) (.loop (rec_ (if jump.isNone then .ready else .done) jump))).heap[w.heap.size + 1]? = some (.loop (rec_ (if jump.isNone then .ready else .done) jump)) ∧
            (A3.putObj (w.heap.size + 1) (.loop (rec_ (if jump.isNone then .ready else .done) jump))).heap[w.heap.size]? = some (.deferred (some [])) := fun jump A3 hk3 => by
          have hl3 := hk3.same _ _ (by omega) hl2 rfl
          have hd3 := hk3.same _ _ (Nat.le_refl _) hd2 rfl
          exact ⟨run_endRound (P := P) jump hl3, hl3, World.putObj_heap_same (lt_of_some hl3), (World.putObj_heap_other (by omega)).trans hd3⟩
        rintro e a3 A3 ⟨F3, ds3, _, hq3⟩
        cases e with
        | normal =>
          obtain ⟨hk3, hkp, hi3⟩ := hq3
          obtain ⟨hr, hl3, hl4, hd4⟩ := fin none A3 hk3
          exact ⟨_, _, hr, .inl ⟨rfl, ⟨hI _ _ _ hi3 (Calm.put _ hl3 (by omega) rfl), hl4, hd4⟩, hKt (hKt (hKt hkp0 hp2) hkp) (hKb A3 _ _ _ (by omega) hl3)⟩⟩
        | ret =>
          obtain ⟨hk3, hi3⟩ := hq3
          obtain ⟨hr, hl3, hl4, hd4⟩ := fin (some .ret) A3 hk3
          exact ⟨_, _, hr, .inr ⟨rfl, .ret, hIx _ _ _ _ hi3 (Calm.put _ hl3 (by omega) rfl), hl4, hd4⟩⟩
        | exit id =>
          obtain ⟨hk3, hi3⟩ := hq3
          obtain ⟨hr, hl3, hl4, hd4⟩ := fin (some (.exit id)) A3 hk3
          exact ⟨_, _, hr, .inr ⟨rfl, .exit id, hIx _ _ _ _ hi3 (Calm.put _ hl3 (by omega) rfl), hl4, hd4⟩⟩
        | goto t => exact hq3.elim
        | panic ch => exact hq3.elim
        | outgrown => exact hq3.elim
      | ret => exact hq.elim
      | exit id => exact hq.elim
      | goto t => exact hq.elim
      | panic ch => exact hq.elim
      | outgrown => exact hq.elim
    · rintro e A ⟨⟨v, rfl⟩, h⟩
      rcases h with ⟨hi, hl, hd⟩ | ⟨k, hk0, hkm, c, hi, hl, hd⟩
      · have hr := run_endLoop (P := P) hl (by simp [rec_])
        refine ⟨none, _, hr, ?_⟩
        have hq := hdone w.heap.size _ (Nat.le_refl _) (hI _ _ _ hi (Calm.put (.loop { rec_ .ready none with state := .exhausted }) hl (by omega) rfl)) ((World.putObj_heap_other (by omega)).trans hd)
        exact ⟨F, _, ⟨hf.size, by rw [hf.defers]; rfl, hf.slot⟩, hq⟩
      · have hr := run_endLoop (P := P) hl (by simp [rec_])
        refine ⟨some c, _, hr, ?_⟩
        have hq := hstop w.heap.size c k _ (Nat.le_refl _) hk0 hkm (hIx _ _ _ _ hi (Calm.put (.loop { rec_ .done (some c) with state := .exhausted }) hl (by omega) rfl)) ((World.putObj_heap_other (by omega)).trans hd)
        exact hq r _ ⟨hf.size, by rw [hf.defers]; rfl, hf.slot⟩

/-! ### A call of yield -/
end rangeA
end Sx
namespace Tl
open Go Go.RowKit Sx
theorem op_mono {F : Fence} {n : Nat} {P : Program} {Q Q' : Exit → Act → World → Prop} {o : Oper} {a : Act} {w : World} {K K' : Act → World → Prop} (h : ∀ a w, K a w → K' a w) (hq : ∀ e a w, Q e a w → Q' e a w)
    (hh : o.wpIn F n P a w K Q) : o.wpIn F n P a w K' Q' := by
  unfold Oper.wpIn at *
  refine ⟨hh.1, ?_⟩
  have hh := hh.2
  generalize (o.semAt F.round a.eval).run P w = r at *
  cases r with
  | ok x w' =>
    cases x <;> simp only [Oper.uponIn] at hh ⊢ <;>
      first
        | exact h _ _ hh
        | exact hq _ _ _ hh
        | exact hh
        | exact ⟨hh.1, CallsIn.mono hh.2 (fun e w'' he => by cases e <;> first | exact h _ _ he | exact hq _ _ _ he | exact let ⟨a, w, ho⟩ := he; ⟨a, w, hq _ _ _ ho⟩ | exact he)⟩
        | exact ⟨hh.1, RowsIn.mono hh.2 (fun _ _ he => h _ _ he)⟩
        | exact ⟨hh.1, RoundIn.mono hh.2 (fun e w'' he => by cases e <;> first | exact h _ _ he | exact hq _ _ _ he | exact let ⟨a, w, ho⟩ := he; ⟨a, w, hq _ _ _ ho⟩ | exact he)⟩
  | halt x w' => cases x <;> simp only [Oper.uponIn] at hh ⊢ <;> first | exact hq _ _ _ hh | exact hh
theorem list_mono {F : Fence} {n : Nat} {P : Program} {ops : Array Oper} {Q Q' : Exit → Act → World → Prop} (hq : ∀ e a w, Q e a w → Q' e a w) : ∀ {l : List Oper} {a : Act} {w : World}, wpListIn F n P ops Q l a w → wpListIn F n P ops Q' l a w
  | [], _, _, h => hq _ _ _ h
  | o :: rest, a, w, h => by
    unfold wpListIn at h ⊢
    split
    · rename_i hw
      rw [if_pos hw] at h
      exact op_mono (fun _ _ h => list_mono hq h) hq h
    · rename_i hw
      rw [if_neg hw] at h
      exact ⟨h.1, list_mono hq h.2⟩
section rules
variable {P : Program} {rd : Option Nat} {n : Nat} {ops : Array Oper} {Q : Post} {rest : List Oper} {F : Fr} {ds : List Deferred} {w : World}
theorem Lst_post {Q' : Post} (h : Lst P rd n ops Q rest F ds w) (hm : ∀ e F ds w, Q e F ds w → Q' e F ds w) : Lst P rd n ops Q' rest F ds w := fun m a hf =>
  list_mono (fun e a w hq => by
    obtain ⟨G, ds', hg, hq⟩ := hq
    exact ⟨G, ds', hg, hm _ _ _ _ hq⟩) (h m a hf)
/-- A cut behind the code that comes next. -/
theorem Lst_cut2 {α : Type} (vals : α → St) (M : α → World → Prop) {y z : Code} (h1 : Lst P rd n ops (seqQ P rd n y (cutQ vals M Q ds)) rest F ds w)
    (h2 : ∀ (J : Fr) (g : α) (w' : World), M g w' → W P rd n z Q (fr J (vals g)) ds w') : Lst P rd n ops (seqQ P rd n y (seqQ P rd n z Q)) rest F ds w := Lst_post h1 fun e F ds' w h => by
  cases e with
  | normal => exact W_post h (cut_seq h2)
  | exit i => exact cut_seq h2 (.exit i) F ds' w h
  | goto i => exact cut_seq h2 (.goto i) F ds' w h
  | ret => exact cut_seq h2 .ret F ds' w h
  | panic i => exact cut_seq h2 (.panic i) F ds' w h
  | outgrown => exact cut_seq h2 .outgrown F ds' w h
/-- A cut behind this list. -/
theorem Lst_cut {α : Type} (vals : α → St) (M : α → World → Prop) {z : Code} (h1 : Lst P rd n ops (cutQ vals M Q ds) rest F ds w)
    (h2 : ∀ (J : Fr) (g : α) (w' : World), M g w' → W P rd n z Q (fr J (vals g)) ds w') : Lst P rd n ops (seqQ P rd n z Q) rest F ds w := Lst_post h1 (cut_seq h2)
end rules
end Tl
namespace Sx
open Go Go.RowKit
section act
variable {P : Program} {r : Nat} {ops : Array Oper} {md : Region.Mode} {S : World → Prop} {Q : Exit → Act → World → Prop}
def FullX (ops : Array Oper) (x : Array Bool) : Prop := ∀ k o, ops[k]? = some o → x.getD k true = true
/-- What is listed waits for nothing that isn't. -/
def ClosedX (md : Region.Mode) (ops : Array Oper) (x : Array Bool) : Prop := ∀ k o, ops[k]? = some o → x.getD k true = true → ∀ e ∈ o.after, Region.binds md e = true → x.getD e.on true = true
theorem closed_set {j : Nat} {x : Array Bool} (h : ClosedX md ops x) (hj : j ∈ Region.ready md ops x) : ClosedX md ops (x.setIfInBounds j true) := by
  obtain ⟨h0, oj, hoj, hall⟩ := mem_ready.1 hj
  have up : ∀ q, x.getD q true = true → (x.setIfInBounds j true).getD q true = true := fun q hq => by
    by_cases e : j = q
    · subst e
      rcases Nat.lt_or_ge j x.size with hl | hl
      · simp [hl]
      · simp [hl]
    · rw [getD_set_ne true e]
      exact hq
  intro k o ho hk e he hb
  by_cases hkj : j = k
  · subst hkj
    rw [hoj] at ho
    cases ho
    have h1 := hall e he hb
    refine up _ ?_
    rcases Nat.lt_or_ge e.on x.size with hl | hl
    · simp [hl] at h1 ⊢
      exact h1
    · simp [Array.getElem?_eq_none hl] at h1
  · rw [getD_set_ne true hkj] at hk
    exact up _ (h k o ho hk e he hb)
/-- Whatever order is picked, and S holds behind every operation but the last. -/
def AnyT (r : Nat) (P : Program) (md : Region.Mode) (ops : Array Oper) (Q : Exit → Act → World → Prop) (S : World → Prop) : Nat → Array Bool → Act → World → Prop
  | 0, x, a, w => Region.ready md ops x = [] ∧ Q .normal a w
  | f + 1, x, a, w => (Region.ready md ops x = [] → Q .normal a w) ∧ ∀ i ∈ Region.ready md ops x, wpOpIn En r P ops Q i (fun a' w' => (S w' ∨ FullX ops (x.setIfInBounds i true)) ∧ AnyT r P md ops Q S f (x.setIfInBounds i true) a' w') a w
theorem anyIn_of_T : ∀ (f : Nat) (x : Array Bool) (a : Act) (w : World), AnyT r P md ops Q S f x a w → wpAnyIn En r P md ops Q f x a w
  | 0, _, _, _, h => h
  | f + 1, _, _, _, h => ⟨h.1, fun i hi => wpOpIn_mono (fun a' w' h' => anyIn_of_T f _ a' w' h'.2) (h.2 i hi)⟩
theorem anyT_first {i k : Nat} {oi ok : Oper} {v : Value} (hi : ops[i]? = some oi) (hk : ops[k]? = some ok) (hki : ∃ e ∈ ok.after, Region.binds md e = true ∧ e.on = i) (hne : k ≠ i) (hsel : ∀ (j : Nat) (o : Oper) cs b, ops[j]? = some o → o.op ≠ .select cs b)
    (hQ : ∀ c a w, ¬ Q (.panic c) a w) :
    ∀ (fuel : Nat) (x : Array Bool) (a : Act) (w : World), ClosedX md ops x →
      (∀ j oj, ops[j]? = some oj → j ≠ i → x.getD j true = false → (∀ e ∈ oj.after, Region.binds md e = true → e.on ≠ i) → oi.apart ops oj = true) →
      i ∈ Region.ready md ops x → YieldsS P ops S oi v a → S w →
      AnyT r P md ops Q S fuel (x.setIfInBounds i true) (a.put oi.dst v) w → AnyT r P md ops Q S (fuel + 1) x a w := by
  intro fuel
  induction fuel with
  | zero =>
    intro x a w _ _ hr hy hS H
    refine ⟨fun h => (by rw [h] at hr; cases hr), fun j hj => ?_⟩
    by_cases hji : j = i
    · subst hji; exact hy.op hi hS ⟨.inl hS, H⟩
    · have := ready_mono hj hji
      rw [H.1] at this
      cases this
  | succ fuel ih =>
    intro x a w hcl hfree hr hy hS H
    refine ⟨fun h => (by rw [h] at hr; cases hr), fun j hj => ?_⟩
    by_cases hji : j = i
    · subst hji; exact hy.op hi hS ⟨.inl hS, H⟩
    · have hnf : ¬ FullX ops ((x.setIfInBounds i true).setIfInBounds j true) := fun hfull => by
        have h0 := (mem_ready.1 hr).1
        obtain ⟨e, he, hb, hon⟩ := hki
        by_cases hkj : j = k
        · subst hkj
          obtain ⟨_, o, ho, hall⟩ := mem_ready.1 hj
          rw [hk] at ho
          cases ho
          have h1 := hall e he hb
          rw [hon, getD_both h0] at h1
          cases h1
        · have h1 := hfull k ok hk
          rw [getD_set_ne true hkj, getD_set_ne true (Ne.symm hne)] at h1
          have h2 := hcl k ok hk h1 e he hb
          rw [hon, h0] at h2
          cases h2
      have h1 := wpOpIn_mono (K' := fun a' w' => S w' ∧ AnyT r P md ops Q S fuel ((x.setIfInBounds i true).setIfInBounds j true) a' w') (fun a' w' h => ⟨h.1.resolve_right hnf, h.2⟩) (H.2 j (ready_mono hj hji))
      obtain ⟨hjun, oj, hoj, hall⟩ := mem_ready.1 hj
      have hnot : ∀ e ∈ oj.after, Region.binds md e = true → e.on ≠ i := fun e he hb heq => by
        have h1 := hall e he hb
        have h0 := (mem_ready.1 hr).1
        rw [heq] at h1
        rw [getD_both h0] at h1
        cases h1
      have h2 := opIn_putS hoj (hfree j oj hoj hji hjun hnot) (fun cs b => hsel i oi cs b hi) (fun cs b => hsel j oj cs b hoj) hQ hy h1
      have hfree' : ∀ k ok, ops[k]? = some ok → k ≠ i → (x.setIfInBounds j true).getD k true = false →
          (∀ e ∈ ok.after, Region.binds md e = true → e.on ≠ i) → oi.apart ops ok = true := fun k ok hk hki hun hno => by
        refine hfree k ok hk hki ?_ hno
        by_cases hjk : j = k
        · subst hjk; exact hjun
        · rw [getD_set_ne true hjk] at hun; exact hun
      refine wpOpIn_mono (fun a' w' h3 => ⟨.inl h3.2.1, ih (x.setIfInBounds j true) a' w' (closed_set hcl hj) hfree' (ready_mono hr (Ne.symm hji)) h3.1 h3.2.1 ?_⟩) h2
      rw [Array.setIfInBounds_comm _ _ hji]
      exact h3.2.2
end act
section fr
variable {P : Program} {n : Nat} {S : World → Prop} {F : Fr} {ds : List Deferred} {w : World}
/-- The region's rest, where S holds behind every operation but the last. -/
def RnT (P : Program) (n : Nat) (l : List Oper) (S : World → Prop) (Q : Post) (g : Nat) (L : List Nat) (F : Fr) (ds : List Deferred) (w : World) : Prop :=
  ClosedX .any l.toArray (lst l.length L) → ∀ r a, Fits n F ds a → AnyT r P .any l.toArray (lift n Q) S g (lst l.length L) a w
theorem W_drawT {id : Nat} {l : List Oper} {Q : Post} (g : Nat) (S : World → Prop) (hm : P.follows .mixedOrders = true) (hg : l.length = g) (h : RnT P n l S Q g [] F ds w.drew) : W P none n (.region id l.toArray true) Q F ds w := fun r a hf => by
  refine wpIn_region_any hm ?_
  subst hg
  have := anyIn_of_T _ _ _ _ (h (fun k o ho hk => by
    have hl : k < l.length := by simpa using (Array.getElem?_eq_some_iff.1 ho).1
    simp [lst, hl] at hk) r a hf)
  simpa [lst] using this
/-- Does one wait for it? -/
def waitsFor (l : List Oper) (i k : Nat) : Bool := k != i && (nth l k).any (fun o => o.after.any fun e => Region.binds .any e && e.on == i)
theorem T_takeV {l : List Oper} {Q : Post} {g' : Nat} {L : List Nat} (i k g : Nat) (hg : g' = g + 1) (hB : (Region.noSelect l.toArray && (Region.ready .any l.toArray (lst l.length L)).contains i && Region.free .any l.toArray (lst l.length L) i && (nth l i).all (fun o => plainOp o.op) && waitsFor l i k) = true)
    (hQ : ∀ c F ds w, ¬ Q (.panic c) F ds w) (hS : S w) (h : Qst P n l.toArray S (fun G => RnT P n l S Q g (i :: L) G ds w) (nth l i) F ds) : RnT P n l S Q g' L F ds w := fun hcl r a hf => by
  subst hg
  have hQ' : ∀ c a w, ¬ lift n Q (.panic c) a w := fun c a w ⟨F, ds, _, h⟩ => hQ c F ds w h
  simp only [Bool.and_eq_true] at hB
  obtain ⟨⟨⟨⟨hsel, hr⟩, hfree⟩, hc⟩, hwt⟩ := hB
  have hr : i ∈ Region.ready .any l.toArray (lst l.length L) := by simpa using hr
  obtain ⟨_, o, ho, _⟩ := mem_ready.1 hr
  rw [nth_some ho] at hc h
  simp only [List.all_cons, List.all_nil, Bool.and_true] at hc
  have h := h a hf
  have hcl' := closed_set hcl hr
  have : ∃ v, YieldsS P l.toArray S o v a ∧ ∃ G, Fits n G ds (a.put o.dst v) ∧ RnT P n l S Q g (i :: L) G ds w := by
    unfold wpQuiet at h
    by_cases hw : Region.wanted o (yielded l.toArray a.tmps) = true
    · rw [if_pos hw] at h
      obtain ⟨v, h1, G, hG, h2⟩ := h
      exact ⟨v, .inl ⟨hw, fun w' hw' => plain_value hc (h1 w' hw')⟩, G, hG, h2⟩
    · rw [if_neg hw] at h
      obtain ⟨G, hG, h2⟩ := h
      exact ⟨undef, .inr ⟨by simpa using hw, rfl⟩, G, hG, h2⟩
  obtain ⟨v, hy, G, hG, hT⟩ := this
  unfold waitsFor at hwt
  simp only [Bool.and_eq_true, bne_iff_ne, ne_eq] at hwt
  obtain ⟨hki, hwt⟩ := hwt
  obtain ⟨ok, hok, he⟩ := List.any_eq_true.1 hwt
  have hk : l.toArray[k]? = some ok := by
    rw [nth_eq] at hok
    simpa using hok
  obtain ⟨e, he1, he2⟩ := Array.any_eq_true'.1 he
  simp only [Bool.and_eq_true, beq_iff_eq] at he2
  exact anyT_first ho hk ⟨e, he1, he2.1, he2.2⟩ hki (Region.noSelect_spec hsel) hQ' g _ a w hcl (Region.free_spec ho hfree) hr hy hS (hT hcl' r _ hG)
theorem T_any {l : List Oper} {Q : Post} {g' : Nat} {L : List Nat} (rs : List Nat) (g : Nat) (hg : g' = g + 1) (hB : (decide (Region.ready .any l.toArray (lst l.length L) = rs) && !rs.isEmpty) = true)
    (h : ∀ i ∈ rs, Lst P none n l.toArray (rnQ Q (fun G ds' w' => S w' ∧ RnT P n l S Q g (i :: L) G ds' w')) (nth l i) F ds w) : RnT P n l S Q g' L F ds w := fun hcl r a hf => by
  subst hg
  simp only [Bool.and_eq_true, decide_eq_true_eq] at hB
  obtain ⟨hr, hne⟩ := hB
  refine ⟨fun e => (by rw [hr] at e; subst e; simp at hne), fun j hj => ?_⟩
  have hj' := hj
  rw [hr] at hj'
  obtain ⟨_, o, ho, _⟩ := mem_ready.1 hj
  refine op_of_lst ho ?_ (h j hj') hf
  rintro a w ⟨G, ds', hG, hS, hR⟩
  exact ⟨.inl hS, hR (closed_set hcl hj) r a hG⟩
/-- The last one. -/
theorem T_last {l : List Oper} {Q : Post} {L : List Nat} (i : Nat) (hB : (decide (Region.ready .any l.toArray (lst l.length L) = [i]) && (lst l.length (i :: L)).all id && (Region.ready .any l.toArray (lst l.length (i :: L))).isEmpty) = true)
    (h : Lst P none n l.toArray (rnQ Q (fun G ds' w' => Q .normal G ds' w')) (nth l i) F ds w) : RnT P n l S Q 1 L F ds w := fun _ r a hf => by
  simp only [Bool.and_eq_true, decide_eq_true_eq] at hB
  obtain ⟨⟨hr, hall⟩, hem⟩ := hB
  refine ⟨fun e => (by rw [hr] at e; cases e), fun j hj => ?_⟩
  have hj' := hj
  rw [hr] at hj'
  obtain rfl := List.mem_singleton.1 hj'
  obtain ⟨_, o, ho, _⟩ := mem_ready.1 hj
  refine op_of_lst ho ?_ h hf
  rintro a w ⟨G, ds', hG, hR⟩
  refine ⟨.inr fun k o' ho' => ?_, List.isEmpty_iff.1 hem, G, ds', hG, hR⟩
  have h1 := Array.all_eq_true.1 hall
  by_cases hk : k < (lst l.length (j :: L)).size
  · have := h1 k hk
    show (lst l.length (j :: L)).getD k true = true
    simp only [Array.getD, hk, dif_pos]
    exact this
  · show (lst l.length (j :: L)).getD k true = true
    simp [hk]
end fr
end Sx
end Go.Proofs.YtmgipnckojopcaaGreat
