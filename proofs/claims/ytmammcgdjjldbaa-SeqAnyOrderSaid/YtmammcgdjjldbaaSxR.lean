/- Our calculus of walks: rows of structs. Over any program. -/
import Derived.Test.YtmammcgdjjldbaaSxD
import Derived.Laws.OwnMore
namespace Go.Proofs.Ytmammcgdjjldbaa
namespace Sx
open Go Go.RowKit
section loads
variable {P : Program} {rd : Option Nat} {n : Nat} {ops : Array Oper} {Q : Post} {rest : List Oper} {F : Fr} {ds : List Deferred} {w : World} {ty : TypeId} {pos : String} {after : Array Edge}
/-- A struct read whole, wherever it lies. -/
theorem Lst_loadS' {d b off : Nat} {x : Operand} {t : TypeId} {u : TypeDesc} {i : TypeInfo} {cs : List Value} (hx : ev F x = .pointer (some ⟨b, off, none⟩)) (ht : P.underlying t = some u) (hu : u.isRow = true) (hi : P.info? t = some i) (hs : i.size = cs.length) (hc : ∀ (j : Nat) (v : Value), cs[j]? = some v → w.cell? ⟨b, off + j, none⟩ = some v) (hd : Nat.blt d n = true)
    (h : Lst P rd n ops Q rest (upd F d (.agg cs.toArray)) ds w) : Lst P rd n ops Q (⟨some d, .load t x, ty, pos, after, none⟩ :: rest) F ds w :=
  Lst_value rfl (by
    have := run_loadAt_mid (P := P) w b off t cs u hc ht hu (by rw [hi]; simp [hs])
    simp [execOp, hx, this]) hd h
end loads
/-- A slice of structs that is only read: the cells of each. -/
def SRows (w : World) (sz : Nat) (v : Value) (ls : List (List Value)) : Prop :=
  ∃ b off cap, (v = .slice (some ⟨b, off, none⟩) ls.length cap ∨ (v = .slice none 0 0 ∧ ls = [])) ∧ ∀ i (h : i < ls.length), b < w.heap.size ∧ ∀ j u, (ls[i])[j]? = some u → w.cell? ⟨b, off + i * sz + j, none⟩ = some u
theorem SRows.form {w : World} {sz : Nat} {v : Value} {ls : List (List Value)} (h : SRows w sz v ls) : ∃ a c, v = .slice a ls.length c := by
  obtain ⟨b, off, cap, hf | ⟨hf, rfl⟩, _⟩ := h
  · exact ⟨_, _, hf⟩
  · exact ⟨_, _, hf⟩
theorem SRows.nil (w : World) (sz : Nat) : SRows w sz (.slice none 0 0) [] := ⟨0, 0, 0, .inr ⟨rfl, rfl⟩, fun _ h => absurd h (Nat.not_lt_zero _)⟩
theorem SRows.below {w w' : World} {sz : Nat} {v : Value} {ls : List (List Value)} {B : Nat} (h : SRows w sz v ls) (hb : Below B w w') (hB : w.heap.size ≤ B) : SRows w' sz v ls := by
  obtain ⟨b, off, cap, hf, hr⟩ := h
  refine ⟨b, off, cap, hf, fun i hi => ?_⟩
  obtain ⟨h1, h2⟩ := hr i hi
  refine ⟨Nat.lt_of_lt_of_le h1 hb.size, fun j u hu => ?_⟩
  exact (hb.cell (p := ⟨b, off + i * sz + j, none⟩) (by show b < B; omega)).trans (h2 j u hu)
theorem SRows.at {w : World} {sz nn : Nat} {a : Option Addr} {c : Nat} {ls : List (List Value)} (h : SRows w sz (.slice a nn c) ls) {i : Nat} (hi : i < ls.length) : ∃ b off, a = some ⟨b, off, none⟩ ∧ b < w.heap.size ∧ ∀ j u, (ls[i])[j]? = some u → w.cell? ⟨b, off + i * sz + j, none⟩ = some u := by
  obtain ⟨b, off, cap, hf | ⟨_, rfl⟩, hr⟩ := h
  · cases hf
    exact ⟨b, off, rfl, hr i hi⟩
  · exact absurd hi (Nat.not_lt_zero _)
theorem SRows.cons {w : World} {sz b off n c : Nat} {l : List Value} {ls : List (List Value)} (h : SRows w sz (.slice (some ⟨b, off, none⟩) (n + 1) c) (l :: ls)) : SRows w sz (.slice (some ⟨b, off + sz, none⟩) n (c - 1)) ls := by
  obtain ⟨b, off, cap, hf | ⟨hf, _⟩, hr⟩ := h
  · cases hf
    refine ⟨b, off + sz, _, .inl rfl, fun i hi => ?_⟩
    obtain ⟨h1, h2⟩ := hr (i + 1) (by simpa using hi)
    refine ⟨h1, fun j u hu => ?_⟩
    rw [show off + sz + i * sz + j = off + (i + 1) * sz + j by rw [Nat.succ_mul]; omega]
    exact h2 j u (by simpa using hu)
  · cases hf
theorem flat_get {sz : Nat} : ∀ (ls : List (List Value)) (i j : Nat) (hi : i < ls.length), (∀ l ∈ ls, l.length = sz) → j < sz → ls.flatten[i * sz + j]? = (ls[i])[j]?
  | l :: ls, 0, j, _, h, hj => by
    have := h l (by simp)
    rw [List.flatten_cons, Nat.zero_mul, Nat.zero_add, List.getElem?_append_left (by omega)]
    rfl
  | l :: ls, i + 1, j, hi, h, hj => by
    have hl := h l (by simp)
    rw [List.flatten_cons, Nat.succ_mul, List.getElem?_append_right (by omega), show i * sz + sz + j - l.length = i * sz + j by omega]
    exact flat_get ls i j (by simpa using hi) (fun l' h' => h l' (by simp [h'])) hj
theorem flat_len {sz : Nat} : ∀ (ls : List (List Value)), (∀ l ∈ ls, l.length = sz) → ls.flatten.length = ls.length * sz
  | [], _ => by simp
  | l :: ls, h => by
    rw [List.flatten_cons, List.length_append, flat_len ls fun l' h' => h l' (by simp [h']), h l (by simp), List.length_cons, Nat.succ_mul]
    omega
theorem SRows.of_own {w : World} {base e sz nn : Nat} {v : Value} {ls : List (List Value)} (h : w.ownsRow base e sz v nn ls.flatten) (hs : ∀ l ∈ ls, l.length = sz) (h1 : 1 ≤ sz) : SRows w sz v ls := by
  obtain ⟨hl, h⟩ := h
  rw [flat_len ls hs] at hl
  have hn : ls.length = nn := Nat.eq_of_mul_eq_mul_right (by omega) hl
  subst hn
  rcases h with ⟨rfl, hn⟩ | ⟨g, cap, cur, rfl, _, hg, _, _, hz, ht⟩
  · exact ⟨0, 0, 0, (.inr ⟨rfl, List.eq_nil_of_length_eq_zero hn⟩), fun i hi => by omega⟩
  · refine ⟨g, 0, cap, .inl rfl, fun i hi => ⟨(Array.getElem?_eq_some_iff.1 hg).1, fun j u hu => ?_⟩⟩
    have hj : j < sz := by
      have := (List.getElem?_eq_some_iff.1 hu).1
      rw [hs _ (List.getElem_mem hi)] at this
      exact this
    have hf := flat_get ls i j hi hs hj
    rw [hu, ← ht, List.getElem?_take_of_lt (by
      have : (i + 1) * sz ≤ ls.length * sz := Nat.mul_le_mul_right _ hi
      rw [Nat.succ_mul] at this
      omega)] at hf
    unfold World.cell?
    simp only [hg]
    rw [Nat.zero_add]
    simpa using hf
end Sx
namespace Sx
open Go Go.RowKit
theorem SRows.flat {w : World} {sz b off n c : Nat} {ls : List (List Value)} (h : SRows w sz (.slice (some ⟨b, off, none⟩) n c) ls) (hs : ∀ l ∈ ls, l.length = sz) (h1 : 1 ≤ sz) (j : Nat) (u : Value) (hu : ls.flatten[j]? = some u) : w.cell? ⟨b, off + j, none⟩ = some u := by
  have hj : j < ls.length * sz := by
    have := (List.getElem?_eq_some_iff.1 hu).1
    rwa [flat_len ls hs] at this
  have hi : j / sz < ls.length := (Nat.div_lt_iff_lt_mul (by omega)).2 hj
  have hr : j % sz < sz := Nat.mod_lt _ (by omega)
  have e : j / sz * sz + j % sz = j := Nat.div_add_mod' j sz
  have hf := flat_get ls (j / sz) (j % sz) hi hs hr
  rw [e, hu] at hf
  obtain ⟨b', off', ha, _, hc⟩ := h.at hi
  cases ha
  have := hc (j % sz) u hf.symm
  rwa [Nat.add_assoc, e] at this
theorem flat_set {sz : Nat} (u : Value) : ∀ (ls : List (List Value)) (i j : Nat) (hi : i < ls.length), (∀ l ∈ ls, l.length = sz) → j < sz → ls.flatten.set (i * sz + j) u = (ls.set i ((ls[i]).set j u)).flatten
  | l :: ls, 0, j, _, h, hj => by
    have := h l (by simp)
    rw [List.flatten_cons, Nat.zero_mul, Nat.zero_add, List.set_append_left _ _ (by omega)]
    rfl
  | l :: ls, i + 1, j, hi, h, hj => by
    have hl := h l (by simp)
    rw [List.flatten_cons, Nat.succ_mul, List.set_append_right _ _ (by omega), show i * sz + sz + j - l.length = i * sz + j by omega, flat_set u ls i j (by simpa using hi) (fun l' h' => h l' (by simp [h'])) hj]
    rfl
/-- A row of one's own, with one cell turned. -/
theorem own_set {w : World} {base e sz nn : Nat} {v : Value} {xs : List Value} (h : w.ownsRow base e sz v nn xs) {k : Nat} (hk : k < xs.length) :
    ∃ g cap l, v = .slice (some ⟨g, 0, none⟩) nn cap ∧ nn ≤ cap ∧ base ≤ g ∧ Blk w g l e ∧ k < l.length ∧ ∀ u, (w.putObj g (.cells (l.set k u).toArray e)).ownsRow base e sz v nn (xs.set k u) := by
  obtain ⟨hl, h⟩ := h
  rcases h with ⟨rfl, rfl⟩ | ⟨g, cap, cur, rfl, hb, hg, hc, hm, hz, ht⟩
  · omega
  · have hk2 : k < nn * sz := by omega
    have hcl : cur.toList.length = cap * sz := by rw [Array.length_toList]; exact hz
    have hle : nn * sz ≤ cap * sz := Nat.mul_le_mul_right _ hc
    refine ⟨g, cap, cur.toList, rfl, hc, hb, ?_, by omega, fun u => ⟨by rw [List.length_set]; exact hl, .inr ⟨g, cap, _, rfl, hb, Blk.put_same (lt_of_some hg) _ _, hc, hm, ?_, ?_⟩⟩⟩
    · unfold Blk
      rw [hg]
    · rw [List.size_toArray, List.length_set]
      exact hcl
    · show (cur.toList.set k u).take (nn * sz) = _
      rw [List.take_set, ht]
/-- One element of a slice that is only read. -/
theorem SRows.cut1 {w : World} {sz c : Nat} {a : Option Addr} {ls : List (List Value)} (h : SRows w sz (.slice a ls.length c) ls) (hc : ls.length ≤ c) {i : Nat} (hi : i < ls.length) : SRows w sz (sliced a i (i + 1) c sz) [ls[i]] := by
  obtain ⟨b, off, rfl, hb, hr⟩ := h.at hi
  unfold sliced
  rw [if_neg (by omega)]
  refine ⟨b, off + i * sz, c - i, .inl ?_, fun j hj => ?_⟩
  · simp [add_none]
  · have hj' : j < 1 := hj
    obtain rfl : j = 0 := by omega
    refine ⟨hb, fun k u hu => ?_⟩
    rw [Nat.zero_mul, Nat.add_zero]
    exact hr k u hu
section rules
variable {P : Program} {rd : Option Nat} {n : Nat} {ops : Array Oper} {Q : Post} {rest : List Oper} {F : Fr} {ds : List Deferred} {w : World} {ty : TypeId} {pos : String} {after : Array Edge}
/-- append of structs that are only read. -/
theorem Lst_appendR {d : Nat} {s x : Operand} {t e B sz bytes nn : Nat} {i : TypeInfo} {z v y : Value} {xs : List Value} {ls : List (List Value)} (hown : w.ownsRow B e sz v nn xs) (hy : SRows w sz y ls) (hls : ∀ l ∈ ls, l.length = sz) (hone : ∀ u ∈ ls.flatten, u.oneCell' = true) (hs : ev F s = v) (hx : ev F x = y) (ht : P.underlying t = some (.slice e)) (hi : P.info? e = some i) (hz : i.zero = some z)
    (hsize : i.size = sz) (hby : i.bytes = bytes) (hzs : z.cells.size = sz) (h1 : Nat.ble 1 sz = true) (h63 : nn + ls.length ≤ 9223372036854775807) (hbytes : (nn + ls.length) * bytes ≤ 140737488355328) (hbase : B ≤ w.heap.size) (hd : Nat.blt d n = true)
    (h : ∀ v' w', w'.ownsRow B e sz v' (nn + ls.length) (xs ++ ls.flatten) → w.grownBy w' v.ownBlock → Lst P rd n ops Q rest (upd F d v') ds w') :
    Lst P rd n ops Q (⟨some d, .call { callee := .builtin .append, args := #[s, x], argTypes := #[t, t] }, ty, pos, after, none⟩ :: rest) F ds w := by
  have h1' : 1 ≤ sz := by simpa using h1
  obtain ⟨b, off, cap, hf | ⟨hf, hnil⟩, hr⟩ := id hy
  · subst hf
    exact Lst_append (news := ls.flatten) hs hx ht hi hz hsize hby hzs h1 hown (fun j u hu => hy.flat hls h1' j u hu) (flat_len ls hls) hone h63 hbytes hbase hd fun v' w' ho hg _ => h v' w' ho hg
  · subst hf
    subst hnil
    have hrun := run_append_owned_none (P := P) (w := w) B t ty e i sz ht hi v nn xs hown
    refine Lst_value (v := v) (w' := w) rfl ?_ hd (h v w (by rw [List.flatten_nil, List.append_nil]; exact hown) ⟨rfl, rfl, rfl, Nat.le_refl _, fun _ _ _ => rfl⟩)
    simp [execOp, resolve, invoke, builtin, hs, hx, hrun]
end rules
section q
variable {P : Program} {n : Nat} {ops : Array Oper} {C : World → Prop} {K : Fr → Prop} {rest : List Oper} {F : Fr} {ds : List Deferred} {ty : TypeId} {pos : String} {after : Array Edge}
/-- A struct read whole, in a drawn region. -/
theorem Qst_loadS {d b off : Nat} {x : Operand} {t : TypeId} {u : TypeDesc} {i : TypeInfo} {cs : List Value} (hx : ev F x = .pointer (some ⟨b, off, none⟩)) (ht : P.underlying t = some u) (hu : u.isRow = true) (hi : P.info? t = some i) (hs : i.size = cs.length) (hc : ∀ w, C w → ∀ (j : Nat) (v : Value), cs[j]? = some v → w.cell? ⟨b, off + j, none⟩ = some v) (hd : Nat.blt d n = true)
    (h : Qst P n ops C K rest (upd F d (.agg cs.toArray)) ds) : Qst P n ops C K (⟨some d, .load t x, ty, pos, after, none⟩ :: rest) F ds :=
  Qst_value rfl (fun w hw => by
    have := run_loadAt_mid (P := P) w b off t cs u (hc w hw) ht hu (by rw [hi]; simp [hs])
    simp [execOp, hx, this]) hd h
end q
end Sx
end Go.Proofs.Ytmammcgdjjldbaa
