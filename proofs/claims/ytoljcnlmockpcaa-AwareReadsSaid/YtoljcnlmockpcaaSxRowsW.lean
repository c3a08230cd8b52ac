/- Rows of structs: append of one that is only read, one cell turned, one element cut out. Over any program. -/
import Derived.Laws.OwnMore
import Derived.Test.YtoljcnlmockpcaaSxRows
namespace Go.Proofs.Ytoljcnlmockpcaa
namespace Sx
open Go Go.RowKit
theorem SRows.flat {w : World} {sz b off n c : Nat} {ls : List (List Value)} (h : SRows w sz (.slice (some ⟨b, off, none⟩) n c) ls) (hs : ∀ l ∈ ls, l.length = sz) (h1 : 1 ≤ sz) (j : Nat) (u : Value) (hu : ls.flatten[j]? = some u) : w.cell? ⟨b, off + j, none⟩ = some u := by
  have hj : j < ls.length * sz := by
    have := (List.getElem?_eq_some_iff.1 hu).1
    rwa [flat_len ls hs] at this
  have hi : j / sz < ls.length := (Nat.div_lt_iff_lt_mul (by omega)).2 hj
  have hr : j % sz < sz := Nat.mod_lt _ (by omega)
  have e : j / sz * sz + j % sz = j := Nat.div_add_mod' j sz
  have hf := flat_get ls (j / sz) (j % sz) hi hs hr
  rw [e, hu] at hf
  obtain ⟨b', off', ha, _, hc⟩ := h.at hi
  cases ha
  have := hc (j % sz) u hf.symm
  rwa [Nat.add_assoc, e] at this
theorem flat_set {sz : Nat} (u : Value) : ∀ (ls : List (List Value)) (i j : Nat) (hi : i < ls.length), (∀ l ∈ ls, l.length = sz) → j < sz → ls.flatten.set (i * sz + j) u = (ls.set i ((ls[i]).set j u)).flatten
  | l :: ls, 0, j, _, h, hj => by
    have := h l (by simp)
    rw [List.flatten_cons, Nat.zero_mul, Nat.zero_add, List.set_append_left _ _ (by omega)]
    rfl
  | l :: ls, i + 1, j, hi, h, hj => by
    have hl := h l (by simp)
    rw [List.flatten_cons, Nat.succ_mul, List.set_append_right _ _ (by omega), show i * sz + sz + j - l.length = i * sz + j by omega, flat_set u ls i j (by simpa using hi) (fun l' h' => h l' (by simp [h'])) hj]
    rfl
/-- A row of one's own, with one cell turned. -/
theorem own_set {w : World} {base e sz nn : Nat} {v : Value} {xs : List Value} (h : w.ownsRow base e sz v nn xs) {k : Nat} (hk : k < xs.length) :
    ∃ g cap l, v = .slice (some ⟨g, 0, none⟩) nn cap ∧ nn ≤ cap ∧ base ≤ g ∧ Blk w g l e ∧ k < l.length ∧ ∀ u, (w.putObj g (.cells (l.set k u).toArray e)).ownsRow base e sz v nn (xs.set k u) := by
  obtain ⟨hl, h⟩ := h
  rcases h with ⟨rfl, rfl⟩ | ⟨g, cap, cur, rfl, hb, hg, hc, hm, hz, ht⟩
  · omega
  · have hk2 : k < nn * sz := by omega
    have hcl : cur.toList.length = cap * sz := by rw [Array.length_toList]; exact hz
    have hle : nn * sz ≤ cap * sz := Nat.mul_le_mul_right _ hc
    refine ⟨g, cap, cur.toList, rfl, hc, hb, ?_, by omega, fun u => ⟨by rw [List.length_set]; exact hl, .inr ⟨g, cap, _, rfl, hb, Blk.put_same (lt_of_some hg) _ _, hc, hm, ?_, ?_⟩⟩⟩
    · unfold Blk
      rw [hg]
    · rw [List.size_toArray, List.length_set]
      exact hcl
    · show (cur.toList.set k u).take (nn * sz) = _
      rw [List.take_set, ht]
/-- One element of a slice that is only read. -/
theorem SRows.cut1 {w : World} {sz c : Nat} {a : Option Addr} {ls : List (List Value)} (h : SRows w sz (.slice a ls.length c) ls) (hc : ls.length ≤ c) {i : Nat} (hi : i < ls.length) : SRows w sz (sliced a i (i + 1) c sz) [ls[i]] := by
  obtain ⟨b, off, rfl, hb, hr⟩ := h.at hi
  unfold sliced
  rw [if_neg (by omega)]
  refine ⟨b, off + i * sz, c - i, .inl ?_, fun j hj => ?_⟩
  · simp [add_none]
  · have hj' : j < 1 := hj
    obtain rfl : j = 0 := by omega
    refine ⟨hb, fun k u hu => ?_⟩
    rw [Nat.zero_mul, Nat.add_zero]
    exact hr k u hu
section rules
variable {P : Program} {rd : Option Nat} {n : Nat} {ops : Array Oper} {Q : Post} {rest : List Oper} {F : Fr} {ds : List Deferred} {w : World} {ty : TypeId} {pos : String} {after : Array Edge}
/-- append of structs that are only read. -/
theorem Lst_appendR {d : Nat} {s x : Operand} {t e B sz bytes nn : Nat} {i : TypeInfo} {z v y : Value} {xs : List Value} {ls : List (List Value)} (hown : w.ownsRow B e sz v nn xs) (hy : SRows w sz y ls) (hls : ∀ l ∈ ls, l.length = sz) (hone : ∀ u ∈ ls.flatten, u.oneCell' = true) (hs : ev F s = v) (hx : ev F x = y) (ht : P.underlying t = some (.slice e)) (hi : P.info? e = some i) (hz : i.zero = some z)
    (hsize : i.size = sz) (hby : i.bytes = bytes) (hzs : z.cells.size = sz) (h1 : Nat.ble 1 sz = true) (h63 : nn + ls.length ≤ 9223372036854775807) (hbytes : (nn + ls.length) * bytes ≤ 140737488355328) (hbase : B ≤ w.heap.size) (hd : Nat.blt d n = true)
    (h : ∀ v' w', w'.ownsRow B e sz v' (nn + ls.length) (xs ++ ls.flatten) → w.grownBy w' v.ownBlock → Lst P rd n ops Q rest (upd F d v') ds w') :
    Lst P rd n ops Q (⟨some d, .call { callee := .builtin .append, args := #[s, x], argTypes := #[t, t] }, ty, pos, after, none⟩ :: rest) F ds w := by
  have h1' : 1 ≤ sz := by simpa using h1
  obtain ⟨b, off, cap, hf | ⟨hf, hnil⟩, hr⟩ := id hy
  · subst hf
    exact Lst_append (news := ls.flatten) hs hx ht hi hz hsize hby hzs h1 hown (fun j u hu => hy.flat hls h1' j u hu) (flat_len ls hls) hone h63 hbytes hbase hd fun v' w' ho hg _ => h v' w' ho hg
  · subst hf
    subst hnil
    have hrun := run_append_owned_none (P := P) (w := w) B t ty e i sz ht hi v nn xs hown
    refine Lst_value (v := v) (w' := w) rfl ?_ hd (h v w (by rw [List.flatten_nil, List.append_nil]; exact hown) ⟨rfl, rfl, rfl, Nat.le_refl _, fun _ _ _ => rfl⟩)
    simp [execOp, resolve, invoke, builtin, hs, hx, hrun]
end rules
section q
variable {P : Program} {n : Nat} {ops : Array Oper} {C : World → Prop} {K : Fr → Prop} {rest : List Oper} {F : Fr} {ds : List Deferred} {ty : TypeId} {pos : String} {after : Array Edge}
/-- A struct read whole, in a drawn region. -/
theorem Qst_loadS {d b off : Nat} {x : Operand} {t : TypeId} {u : TypeDesc} {i : TypeInfo} {cs : List Value} (hx : ev F x = .pointer (some ⟨b, off, none⟩)) (ht : P.underlying t = some u) (hu : u.isRow = true) (hi : P.info? t = some i) (hs : i.size = cs.length) (hc : ∀ w, C w → ∀ (j : Nat) (v : Value), cs[j]? = some v → w.cell? ⟨b, off + j, none⟩ = some v) (hd : Nat.blt d n = true)
    (h : Qst P n ops C K rest (upd F d (.agg cs.toArray)) ds) : Qst P n ops C K (⟨some d, .load t x, ty, pos, after, none⟩ :: rest) F ds :=
  Qst_value rfl (fun w hw => by
    have := run_loadAt_mid (P := P) w b off t cs u (hc w hw) ht hu (by rw [hi]; simp [hs])
    simp [execOp, hx, this]) hd h
end q
end Sx
end Go.Proofs.Ytoljcnlmockpcaa
