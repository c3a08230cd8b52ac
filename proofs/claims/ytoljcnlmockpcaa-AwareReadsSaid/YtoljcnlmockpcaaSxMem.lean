/- Rules of our calculus for slices: literals, append to a slice of the call's own, addresses of elements, conversions of runes. Over any program. -/
import Derived.Test.YtoljcnlmockpcaaSxRange
import Derived.Laws.Cover4
namespace Go.Proofs.Ytoljcnlmockpcaa
namespace Sx
open Go Go.RowKit

section mem
variable {P : Program} {rd : Option Nat} {n : Nat} {ops : Array Oper} {Q : Post} {rest : List Oper} {F : Fr} {ds : List Deferred} {w : World} {ty : TypeId} {pos : String} {after : Array Edge}

theorem Blk.grown {b : Nat} {l : List Value} {e : TypeId} {w' : World} {row : Option Nat} (h : Blk w b l e) (hg : w.grownBy w' row) (hne : ∀ k, row = some k → k ≠ b) : Blk w' b l e :=
  (hg.block b h.lt (fun e => hne b e.symm rfl)).trans h
theorem own_ne {base : Nat} {e : TypeId} {size nn : Nat} {v : Value} {xs : List Value} (h : w.ownsRow base e size v nn xs) {b : Nat} (hb : b < base) : ∀ k, v.ownBlock = some k → k ≠ b := fun k hk => by
  have := (h.lt k hk).1
  omega

/-- []T{x}: a literal of one element. -/
theorem Lst_lit1 {d t e B : Nat} {x : Operand} {i : TypeInfo} {v z : Value} {cs : List Value} (hx : Fc (ev F x) v) (ht : P.underlying t = some (.slice e)) (hi : P.info? e = some i) (hz : i.zero = some z) (hzc : z.cells.size = i.size) (hc : v.cells = cs.toArray) (hl : cs.length = i.size) (hs : Nat.ble i.size 4096 = true) (h1 : Nat.ble 1 i.size = true) (hB : w.heap.size = B) (hd : Nat.blt d n = true)
    (h : Lst P rd n ops Q rest (upd F d (.slice (some ⟨B, 0, none⟩) 1 1)) ds (w.alloc (.cells cs.toArray e))) : Lst P rd n ops Q (⟨some d, .buildSlice t 1 #[(0, x)], ty, pos, after, none⟩ :: rest) F ds w :=
  Lst_value rfl (by
    subst hB
    have hs' : i.size ≤ 4096 := by simpa using hs
    have h1' : 1 ≤ i.size := by simpa using h1
    have hsz : (sizeOf e).run P w = .ok i.size w := by simp [sizeOf, typeInfo, hi]
    have hzv : (zeroValue e).run P w = .ok z w := by simp [zeroValue, typeInfo, hi, hz]
    have hfill : Instr.fill (fun j => some (j * i.size, i.size)) ((Array.range (1 * i.size)).map (z.cells[· % z.cells.size]!)) [(0, v)] = some cs.toArray := by
      have e1 : ¬ (v.cells.size ≠ i.size ∨ 0 * i.size + v.cells.size > ((Array.range (1 * i.size)).map (z.cells[· % z.cells.size]!)).size) := by
        rw [hc]; simp [hl]
      simp only [Instr.fill]
      rw [if_neg (by simpa using e1)]
      congr 1
      rw [hc]
      have key : ∀ (l : List Value) (k : Nat) (acc : Array Value), k + l.length ≤ acc.size →
          ((l.zipIdx k).foldl (fun cs (x : Value × Nat) => cs.setIfInBounds (0 * i.size + x.2) x.1) acc).toList = acc.toList.take k ++ l ++ acc.toList.drop (k + l.length) := by
        intro l
        induction l with
        | nil => intro k acc _; simp
        | cons y l ih =>
          intro k acc hk
          simp only [List.length_cons] at hk
          rw [List.zipIdx_cons, List.foldl_cons, ih (k + 1) _ (by simp; omega)]
          have hkl : k < acc.toList.length := by simp; omega
          simp only [Nat.zero_mul, Nat.zero_add, Array.toList_setIfInBounds]
          rw [List.take_succ_eq_append_getElem (by simp; omega), List.take_set_of_le (Nat.le_refl k), List.getElem_set_self, List.drop_set_of_lt (by omega)]
          simp only [List.append_assoc, List.length_cons, List.cons_append, List.nil_append]
          rw [show k + 1 + l.length = k + (l.length + 1) by omega]
      apply Array.toList_inj.1
      have := key cs 0 ((Array.range (1 * i.size)).map (z.cells[· % z.cells.size]!)) (by simp [hl])
      rw [← Array.foldl_toList, Array.toList_zipIdx]
      rw [this]
      simp [hl]
    simp [execOp, hx.eq, Instr.buildSlice, run_underlying ht, hsz, show ¬ (i.size > 2 ^ 24) by omega, show ¬ (i.size = 0) by omega, hzv, newRow]
    simp at hfill
    rw [hfill]
    simp) hd h

/-- append(s, x...) where s is nil or a row of the call's own. -/
theorem Lst_append {d : Nat} {s x : Operand} {t e base size bytes nn m c B off : Nat} {i : TypeInfo} {z v : Value} {xs news : List Value} (hs : ev F s = v) (hx : ev F x = .slice (some ⟨B, off, none⟩) m c) (ht : P.underlying t = some (.slice e)) (hi : P.info? e = some i) (hz : i.zero = some z)
    (hsize : i.size = size) (hby : i.bytes = bytes) (hzs : z.cells.size = size) (hsz : Nat.ble 1 size = true) (hown : w.ownsRow base e size v nn xs) (hnews : ∀ j u, news[j]? = some u → w.cell? ⟨B, off + j, none⟩ = some u) (hl : news.length = m * size) (h1 : ∀ u ∈ news, u.oneCell' = true)
    (h63 : nn + m ≤ 9223372036854775807) (hbytes : (nn + m) * bytes ≤ 140737488355328) (hbase : base ≤ w.heap.size) (hd : Nat.blt d n = true)
    (h : ∀ v' w', w'.ownsRow base e size v' (nn + m) (xs ++ news) → w.grownBy w' v.ownBlock → (v' = .slice none 0 0 ↔ v = .slice none 0 0 ∧ m = 0) → Lst P rd n ops Q rest (upd F d v') ds w') :
    Lst P rd n ops Q (⟨some d, .call { callee := .builtin .append, args := #[s, x], argTypes := #[t, t] }, ty, pos, after, none⟩ :: rest) F ds w := by
  have hsz' : 0 < size := by have : 1 ≤ size := by simpa using hsz
                             omega
  obtain ⟨v', w', hrun, h2, h3, h4⟩ := run_append_own (P := P) w base t ty e i z size bytes ht hi hz hsize hby hzs hsz' v nn xs hown ⟨B, off, none⟩ m c news hl (fun j u hu => by
    have := hnews j u hu
    by_cases hj : j = 0
    · subst hj; simpa [Addr.add] using this
    · simpa [Addr.add, hj] using this) h1 (by simp only [maxLen]; omega) hbytes hbase
  refine Lst_value (v := v') (w' := w') rfl ?_ hd (h v' w' h2 h3 h4)
  simp [execOp, resolve, invoke, builtin, hs, hx, hrun]

theorem add_none (b off k : Nat) : (⟨b, off, none⟩ : Addr).add k = ⟨b, off + k, none⟩ := by
  by_cases h : k = 0
  · subst h; rfl
  · simp [Addr.add, h]
/-- The address of an element of a slice. -/
theorem P_idx {t e b off len c : Nat} {x ix : Operand} {k : IntKind} {q : Int} {i : TypeInfo} {sz : Nat} (hx : ev F x = .slice (some ⟨b, off, none⟩) len c) (hq : ev F ix = .int k q) (ht : P.underlying t = some (.slice e)) (hi : P.info? e = some i) (hs : i.size = sz) (h0 : 0 ≤ q) (h1 : q < len) :
    Pu P F (.indexAddr t x ix) ty (.pointer (some ⟨b, off + q.toNat * sz, none⟩)) := fun dst pos after w => by
  have hsz : (sizeOf e).run P w = .ok sz w := by simp [sizeOf, typeInfo, hi, hs]
  simp [execOp, hx, hq, Instr.indexAt, asIntOf, run_underlying ht, h0, h1, hsz, add_none]
theorem P_idx1 {t e b off len c j : Nat} {x ix : Operand} {k : IntKind} {i : TypeInfo} (hx : ev F x = .slice (some ⟨b, off, none⟩) len c) (hq : ev F ix = .int k (j : Int)) (ht : P.underlying t = some (.slice e)) (hi : P.info? e = some i) (hs : i.size = 1) (h1 : j < len) :
    Pu P F (.indexAddr t x ix) ty (.pointer (some ⟨b, off + j, none⟩)) := by
  have := P_idx (ty := ty) hx hq ht hi hs (by omega) (by omega)
  simpa using this
/-! ### A row of its own, kept -/
theorem own_keep {w w' : World} {base : Nat} {e : TypeId} {size nn : Nat} {v : Value} {xs : List Value} (h : w.ownsRow base e size v nn xs) (hk : ∀ g o, base ≤ g → w.heap[g]? = some o → o.isCells = true → w'.heap[g]? = some o) : w'.ownsRow base e size v nn xs := by
  obtain ⟨hl, h⟩ := h
  refine ⟨hl, ?_⟩
  rcases h with h | ⟨g, cap, cur, hv, hb, hg, h⟩
  · exact .inl h
  · exact .inr ⟨g, cap, cur, hv, hb, hk g _ hb hg rfl, h⟩
theorem own_slice {w : World} {base : Nat} {e : TypeId} {size nn : Nat} {v : Value} {xs : List Value} (h : w.ownsRow base e size v nn xs) : ∃ a m c, v = .slice a m c := by
  obtain ⟨_, h⟩ := h
  rcases h with ⟨rfl, _⟩ | ⟨g, cap, cur, rfl, _⟩
  · exact ⟨_, _, _, rfl⟩
  · exact ⟨_, _, _, rfl⟩
theorem own_form {w : World} {base : Nat} {e : TypeId} {size nn : Nat} {v : Value} {xs : List Value} (h : w.ownsRow base e size v nn xs) : ∃ a c, v = .slice a nn c ∧ nn ≤ c := by
  obtain ⟨_, h⟩ := h
  rcases h with ⟨rfl, rfl⟩ | ⟨g, cap, cur, rfl, _, _, hc, _⟩
  · exact ⟨_, _, rfl, Nat.le_refl _⟩
  · exact ⟨_, _, rfl, hc⟩
theorem own_calm {B : Nat} {w w' : World} {base : Nat} {e : TypeId} {size nn : Nat} {v : Value} {xs : List Value} (h : w.ownsRow base e size v nn xs) (hc : Calm B w w') : w'.ownsRow base e size v nn xs :=
  own_keep h fun _ o _ hg ho => hc.same _ o hg (.inr ho)
theorem own_alloc {w : World} {base : Nat} {e : TypeId} {size nn : Nat} {v : Value} {xs : List Value} (h : w.ownsRow base e size v nn xs) (o : Obj) : (w.alloc o).ownsRow base e size v nn xs :=
  own_keep h fun g _ _ hg _ => (Below.heap_alloc w o g (lt_of_some hg)).trans hg
theorem own_put {w : World} {base b : Nat} {e : TypeId} {size nn : Nat} {v : Value} {xs : List Value} (h : w.ownsRow base e size v nn xs) (hb : b < base) (o : Obj) : (w.putObj b o).ownsRow base e size v nn xs :=
  own_keep h fun _ _ hg hx _ => (World.putObj_heap_other (by omega)).trans hx
theorem own_drew {w : World} {base : Nat} {e : TypeId} {size nn : Nat} {v : Value} {xs : List Value} (h : w.ownsRow base e size v nn xs) : w.drew.ownsRow base e size v nn xs := h
theorem own_below {m : Nat} {w w' : World} {base : Nat} {e : TypeId} {size nn : Nat} {v : Value} {xs : List Value} (h : w.ownsRow base e size v nn xs) (hb : Below m w w') (hm : w.heap.size ≤ m) : w'.ownsRow base e size v nn xs :=
  own_keep h fun g _ _ hx _ => (hb.block g (by have := lt_of_some hx; omega)).trans hx
/-- append(s, x): one element more. -/
theorem Lst_push {d0 d t e base size bytes nn : Nat} {x s y : Operand} {i : TypeInfo} {v xv z : Value} {cs xs : List Value} {ty' : TypeId} {pos' : String} {after' : Array Edge} (hown : w.ownsRow base e size v nn xs) (hx : Fc (ev F x) xv) (ht : P.underlying t = some (.slice e)) (hi : P.info? e = some i) (hz : i.zero = some z)
    (hsize : i.size = size) (hby : i.bytes = bytes) (hzs : z.cells.size = size) (hc : xv.cells = cs.toArray) (hl : cs.length = size) (hs : Nat.ble size 4096 = true) (h1 : Nat.ble 1 size = true) (hone : ∀ u ∈ cs, u.oneCell' = true) (hd0 : Nat.blt d0 n = true)
    (hsv : ev (upd F d0 (.slice (some ⟨w.heap.size, 0, none⟩) 1 1)) s = v) (hy : ev (upd F d0 (.slice (some ⟨w.heap.size, 0, none⟩) 1 1)) y = .slice (some ⟨w.heap.size, 0, none⟩) 1 1) (hd : Nat.blt d n = true)
    (h63 : nn + 1 ≤ 9223372036854775807) (hbytes : (nn + 1) * bytes ≤ 140737488355328) (hbase : base ≤ w.heap.size)
    (h : ∀ v' w', w'.ownsRow base e size v' (nn + 1) (xs ++ cs) → w.grownBy w' v.ownBlock → v' ≠ .slice none 0 0 → Lst P rd n ops Q rest (upd (upd F d0 (.slice (some ⟨w.heap.size, 0, none⟩) 1 1)) d v') ds w') :
    Lst P rd n ops Q (⟨some d0, .buildSlice t 1 #[(0, x)], ty', pos', after', none⟩ :: ⟨some d, .call { callee := .builtin .append, args := #[s, y], argTypes := #[t, t] }, ty, pos, after, none⟩ :: rest) F ds w := by
  refine Lst_lit1 hx ht hi hz (hzs.trans hsize.symm) hc (hl.trans hsize.symm) (by rw [hsize]; exact hs) (by rw [hsize]; exact h1) rfl hd0 ?_
  refine Lst_append (news := cs) hsv hy ht hi hz hsize hby hzs h1 (own_alloc hown _) (fun j u hu => ((Blk.new w _ _).cell (0 + j)).trans (by simpa using hu)) (by rw [hl, Nat.one_mul]) hone h63 hbytes (by rw [World.size_alloc]; omega) hd (fun v' w' h1 h2 h3 => h v' w' h1 ?_ ?_)
  · refine ⟨h2.os, h2.tape, h2.output, Nat.le_trans (by rw [World.size_alloc]; omega) h2.size, fun k hk hne => (h2.block k (by rw [World.size_alloc]; omega) hne).trans (Below.heap_alloc w _ k hk)⟩
  · intro e
    have := (h3.1 e).2
    omega
/-- A slice of whole numbers that is only read. -/
def Ints (w : World) (k : IntKind) (v : Value) (zs : List Int) : Prop :=
  ∃ b off cap, (v = .slice (some ⟨b, off, none⟩) zs.length cap ∨ (v = .slice none 0 0 ∧ zs = [])) ∧ (zs ≠ [] → b < w.heap.size) ∧ ∀ j (h : j < zs.length), w.cell? ⟨b, off + j, none⟩ = some (.int k zs[j])
theorem Ints.below {k : IntKind} {v : Value} {zs : List Int} {B : Nat} {w' : World} (h : Ints w k v zs) (hb : Below B w w') (hB : w.heap.size ≤ B) : Ints w' k v zs := by
  obtain ⟨b, off, cap, h1, h2, h3⟩ := h
  refine ⟨b, off, cap, h1, fun hz => by have := h2 hz; have := hb.size; omega, fun j hj => ?_⟩
  have := h2 (by intro e; subst e; simp at hj)
  exact (hb.cell (p := ⟨b, off + j, none⟩) (by show b < B; omega)).trans (h3 j hj)
theorem Ints.of_own {base e nn : Nat} {v : Value} {k : IntKind} {zs : List Int} (h : w.ownsRow base e 1 v nn (zs.map (Value.int k))) : Ints w k v zs := by
  obtain ⟨hl, h⟩ := h
  simp at hl
  rcases h with ⟨rfl, hn⟩ | ⟨g, cap, cur, rfl, _, hg, _, _, hs, ht⟩
  · have hz : zs = [] := List.eq_nil_of_length_eq_zero (by omega)
    subst hz
    exact ⟨0, 0, 0, .inr ⟨rfl, rfl⟩, fun e => absurd rfl e, fun j hj => by simp at hj⟩
  · refine ⟨g, 0, cap, .inl (by rw [hl]), fun _ => (Array.getElem?_eq_some_iff.1 hg).1, fun j hj => ?_⟩
    unfold World.cell?
    simp only [hg]
    have e1 : (cur.toList.take (nn * 1))[j]? = some (.int k zs[j]) := by rw [ht]; simp [hj]
    rw [List.getElem?_take] at e1
    split at e1
    · simpa using e1
    · cases e1
/-- l[lo:hi], l[:hi], l[lo:] of a slice. -/
theorem P_lslice {t e sz n' c : Nat} {x lo hi : Operand} {k k' : IntKind} {b : Option Addr} {m m' : Int} {i : TypeInfo} (hx : ev F x = .slice b n' c) (hlo : ev F lo = .int k m) (hhi : ev F hi = .int k' m') (ht : P.underlying t = some (.slice e)) (hi' : P.info? e = some i) (hs : i.size = sz) (h0 : 0 ≤ m) (h1 : m ≤ m') (h2 : m' ≤ c) :
    Pu P F (.slice t x (some lo) (some hi) none) ty (sliced b m.toNat m'.toNat c sz) := fun dst pos after w => by
  have hsz : (sizeOf e).run P w = .ok sz w := by simp [sizeOf, typeInfo, hi', hs]
  have e1 : m ≤ (m'.toNat : Int) := by omega
  simp [execOp, hx, hlo, hhi, Instr.sliceAt, Instr.slice, Instr.sliceBounds, Instr.sliceBound, asIntOf, run_underlying ht, h0, h2, hsz, sliced, show 0 ≤ m' by omega, show ¬ max m' 0 < m by omega]
theorem P_lslice_hi {t e sz n' c : Nat} {x hi : Operand} {k' : IntKind} {b : Option Addr} {m' : Int} {i : TypeInfo} (hx : ev F x = .slice b n' c) (hhi : ev F hi = .int k' m') (ht : P.underlying t = some (.slice e)) (hi' : P.info? e = some i) (hs : i.size = sz) (h1 : 0 ≤ m') (h2 : m' ≤ c) :
    Pu P F (.slice t x none (some hi) none) ty (sliced b 0 m'.toNat c sz) := fun dst pos after w => by
  have hsz : (sizeOf e).run P w = .ok sz w := by simp [sizeOf, typeInfo, hi', hs]
  simp [execOp, hx, hhi, Instr.sliceAt, Instr.slice, Instr.sliceBounds, Instr.sliceBound, asIntOf, run_underlying ht, h1, h2, hsz, sliced]
theorem P_lslice_lo {t e sz n' c : Nat} {x lo : Operand} {k : IntKind} {b : Option Addr} {m : Int} {i : TypeInfo} (hx : ev F x = .slice b n' c) (hlo : ev F lo = .int k m) (ht : P.underlying t = some (.slice e)) (hi' : P.info? e = some i) (hs : i.size = sz) (h0 : 0 ≤ m) (h1 : m ≤ n') :
    Pu P F (.slice t x (some lo) none none) ty (sliced b m.toNat n' c sz) := fun dst pos after w => by
  have hsz : (sizeOf e).run P w = .ok sz w := by simp [sizeOf, typeInfo, hi', hs]
  simp [execOp, hx, hlo, Instr.sliceAt, Instr.slice, Instr.sliceBounds, Instr.sliceBound, asIntOf, run_underlying ht, h0, h1, hsz, sliced]
theorem Ints.sub {k : IntKind} {b : Option Addr} {n' c : Nat} {zs : List Int} (hv : Ints w k (.slice b n' c) zs) (hc : n' ≤ c) {l h : Nat} (h1 : l ≤ h) (h2 : h ≤ n') : Ints w k (sliced b l h c 1) ((zs.take h).drop l) := by
  obtain ⟨g, off, cap, hf, hb, hr⟩ := hv
  rcases hf with hf | ⟨hf, rfl⟩
  · cases hf
    have hlen : ((zs.take h).drop l).length = h - l := by simp; omega
    by_cases hcl : c = l
    · have hz : (zs.take h).drop l = [] := List.eq_nil_of_length_eq_zero (by omega)
      rw [hz]
      refine ⟨g, off, c - l, .inl ?_, fun e => absurd rfl e, fun j hj => absurd hj (Nat.not_lt_zero _)⟩
      unfold sliced
      rw [if_pos hcl]
      have : h - l = 0 := by omega
      rw [this]; rfl
    · refine ⟨g, off + l, c - l, .inl ?_, fun hz => hb (by intro e; subst e; exact hz (by simp)), fun j hj => ?_⟩
      · unfold sliced
        rw [if_neg hcl, hlen]
        simp [add_none]
      · have hj2 : l + j < zs.length := by omega
        have := hr (l + j) hj2
        rw [Nat.add_assoc, this]
        simp
  · cases hf
    obtain rfl : h = 0 := by omega
    obtain rfl : l = 0 := by omega
    exact ⟨0, 0, 0, .inr ⟨by unfold sliced; split <;> simp_all, rfl⟩, fun e => absurd rfl e, fun j hj => absurd hj (Nat.not_lt_zero _)⟩
theorem Ints.form {k : IntKind} {v : Value} {zs : List Int} (hv : Ints w k v zs) : ∃ b c, v = .slice b zs.length c := by
  obtain ⟨g, off, cap, hf | ⟨hf, rfl⟩, _⟩ := hv
  · exact ⟨_, _, hf⟩
  · exact ⟨_, _, hf⟩
theorem Ints.at {k : IntKind} {b : Option Addr} {n' c : Nat} {zs : List Int} (hv : Ints w k (.slice b n' c) zs) {j : Nat} (hj : j < n') : ∃ g off, b = some ⟨g, off, none⟩ ∧ w.cell? ⟨g, off + j, none⟩ = some (.int k (zs.getD j 0)) := by
  obtain ⟨g, off, cap, hf, _, hr⟩ := hv
  rcases hf with hf | ⟨hf, rfl⟩
  · cases hf
    exact ⟨g, off, rfl, by rw [hr j hj]; simp [List.getD, hj]⟩
  · cases hf
    exact absurd hj (Nat.not_lt_zero _)
theorem P_max {x y : Operand} {k k' : IntKind} {a b : Int} {ts : Array TypeId} (hx : ev F x = .int k a) (hy : ev F y = .int k' b) : Pu P F (.call { callee := .builtin .max, args := #[x, y], argTypes := ts }) ty (.int k (max a b)) := fun dst pos after w => by
  have e : (if b > a then b else a) = max a b := by split <;> omega
  have := run_max_int2 (P := P) (w := w) ts ty k k' a b
  rw [e] at this
  simp [execOp, resolve, invoke, builtin, hx, hy, this]
theorem P_min {x y : Operand} {k k' : IntKind} {a b : Int} {ts : Array TypeId} (hx : ev F x = .int k a) (hy : ev F y = .int k' b) : Pu P F (.call { callee := .builtin .min, args := #[x, y], argTypes := ts }) ty (.int k (min a b)) := fun dst pos after w => by
  have e : (if b < a then b else a) = min a b := by split <;> omega
  have := run_min_int2 (P := P) (w := w) ts ty k k' a b
  rw [e] at this
  simp [execOp, resolve, invoke, builtin, hx, hy, this]
/-- string(rs). -/
theorem Lst_runes {d t t' e : Nat} {x : Operand} {v : Value} {zs : List Int} (hx : ev F x = v) (ht : P.underlying t = some (.slice e)) (he : P.underlying e = some (.int .i32)) (ht' : P.underlying t' = some .string) (hv : Ints w .i32 v zs) (hd : Nat.blt d n = true)
    (h : Lst P rd n ops Q rest (upd F d (.string (runesBytes zs))) ds w) : Lst P rd n ops Q (⟨some d, .convert t t' x, ty, pos, after, none⟩ :: rest) F ds w :=
  Lst_value rfl (by
    obtain ⟨b, off, cap, h1, h2, h3⟩ := hv
    rcases h1 with rfl | ⟨rfl, rfl⟩
    · have := run_convert_runes (P := P) w t t' e ⟨b, off, none⟩ zs.length cap zs (Nat.le_refl _) ht he ht' (fun j hj => by rw [add_none, h3 j hj]; simp [List.getD, hj])
      simp [execOp, hx, this]
    · have := run_convert_runes_nil (P := P) w t t' e 0 0 ht he ht'
      simp [execOp, hx, this, runesBytes]) hd h
/-! ### A range over a string -/
theorem Lst_rangeS {d t B : Nat} {x : Operand} {s : ByteArray} (hx : ev F x = .string s) (ht : P.underlying t = some .string) (hB : w.heap.size = B) (hd : Nat.blt d n = true)
    (h : Lst P rd n ops Q rest (upd F d (.pointer (some ⟨B, 0, none⟩))) ds (w.alloc (.stringIter s 0))) : Lst P rd n ops Q (⟨some d, .range t x, ty, pos, after, none⟩ :: rest) F ds w :=
  Lst_value rfl (by subst hB; simp [execOp, hx, Instr.range, run_underlying ht]) hd h
theorem Lst_nextS_t {d B p : Nat} {x : Operand} {s : ByteArray} (hx : ev F x = .pointer (some ⟨B, 0, none⟩)) (hi : w.heap[B]? = some (.stringIter s p)) (hp : p < s.size) (hd : Nat.blt d n = true)
    (h : Lst P rd n ops Q rest (upd F d (.tuple #[.bool true, .int .i64 p, .int .i32 ((Utf8.decode s p).1 : Int)])) ds (w.putObj B (.stringIter s (p + (Utf8.decode s p).2)))) : Lst P rd n ops Q (⟨some d, .next x true, ty, pos, after, none⟩ :: rest) F ds w :=
  Lst_value rfl (by simp [execOp, hx, Instr.next, getObj, setObj, Sem.run, hi, hp, goInt, World.putObj]) hd h
theorem Lst_nextS_f {d B p : Nat} {x : Operand} {s : ByteArray} (hx : ev F x = .pointer (some ⟨B, 0, none⟩)) (hi : w.heap[B]? = some (.stringIter s p)) (hp : ¬ p < s.size) (hd : Nat.blt d n = true)
    (h : Lst P rd n ops Q rest (upd F d (.tuple #[.bool false])) ds w) : Lst P rd n ops Q (⟨some d, .next x true, ty, pos, after, none⟩ :: rest) F ds w :=
  Lst_value rfl (by simp [execOp, hx, Instr.next, getObj, Sem.run, hi, hp]) hd h
theorem KO.own {X A A' : World} {base : Nat} {e : TypeId} {size nn : Nat} {v : Value} {xs : List Value} (k : KeepsOthers X A) (h : A.ownsRow base e size v nn xs) (hg : A.grownBy A' v.ownBlock) : KeepsOthers X A' :=
  k.trans (KeepsOthers.of_grownBy hg fun j o hj ho => by
    obtain ⟨_, h⟩ := h
    rcases h with ⟨rfl, _⟩ | ⟨g, cap, cur, rfl, _, hc, _⟩
    · cases hj
    · cases hj
      have : some (Obj.cells cur e) = some o := hc.symm.trans ho
      cases this
      rfl)
theorem Below.own {m : Nat} {X A A' : World} {base : Nat} {e : TypeId} {size nn : Nat} {v : Value} {xs : List Value} (k : Below m X A) (h : A.ownsRow base e size v nn xs) (hg : A.grownBy A' v.ownBlock) (hm : m ≤ base) (hs : m ≤ A.heap.size) : Below m X A' :=
  k.grown hg hs fun j hj => Nat.le_trans hm (h.lt j hj).1
/-! ### Results that lie in a box -/
theorem ret_cell {F : Fr} {t : TypeId} {u : TypeDesc} {a b : Nat} {v : Value} {e : TypeId} (hx : F a = .pointer (some ⟨b, 0, none⟩)) (ht : P.underlying t = some u) (hu : aggT u = false) (hb : Blk w b [v] e) : ∃ p, F a = .pointer (some p) ∧ (loadVar t p).run P w = .ok v w :=
  ⟨_, hx, by have := (Blk.cell hb 0); simp [loadVar, run_isAgg ht, hu, load, Sem.run, this]⟩
theorem retM1cp {R : Value → World → Prop} {t : TypeId} {u : TypeDesc} {a b : Nat} {v : Value} {e : TypeId} (hx : F a = .pointer (some ⟨b, 0, none⟩)) (ht : P.underlying t = some u) (hu : aggT u = false) (hb : Blk w b [v] e) (h : R v w) : retM P [.cell a t] R .ret F [] w :=
  ⟨[v], ⟨ret_cell hx ht hu hb, trivial⟩, h⟩
theorem retM1c {R : Value → World → Prop} {t : TypeId} {u : TypeDesc} {a b D : Nat} {v : Value} {e : TypeId} (hD : w.heap[D]? = some (.deferred (some []))) (hx : F a = .pointer (some ⟨b, 0, none⟩)) (ht : P.underlying t = some u) (hu : aggT u = false) (hb : Blk w b [v] e) (h : R v (w.putObj D (.deferred none))) : retM P [.cell a t] R .ret F [{ target := .collected D, args := #[] }] w := by
  have hn : b ≠ D := by
    intro x
    subst x
    have : some (Obj.cells #[v] e) = some (Obj.deferred (some [])) := (show w.heap[b]? = _ from hb).symm.trans hD
    cases this
  exact ⟨D, rfl, hD, [v], ⟨ret_cell hx ht hu (Blk.put_ne hn hb), trivial⟩, h⟩
theorem retQ1c {R : Value → World → Prop} {t : TypeId} {u : TypeDesc} {a b : Nat} {v : Value} {e : TypeId} (hx : F a = .pointer (some ⟨b, 0, none⟩)) (ht : P.underlying t = some u) (hu : aggT u = false) (hb : Blk w b [v] e) (h : R v w) : retQ P [.cell a t] R .ret F [] w :=
  ⟨rfl, [v], ⟨ret_cell hx ht hu hb, trivial⟩, h⟩
theorem KO.put {A : World} {b : Nat} {l l' : List Value} {e e' : TypeId} (h : Blk A b l e) : KeepsOthers A (A.putObj b (.cells l'.toArray e')) :=
  ⟨by simp, fun k o hk ho => by
    by_cases x : k = b
    · subst x
      have : some (Obj.cells l.toArray e) = some o := (show A.heap[k]? = _ from h).symm.trans hk
      cases this
      cases ho
    · exact (World.putObj_heap_other x).trans hk⟩
theorem KO.putO {X A : World} {b : Nat} {l : List Value} {e : TypeId} (k : KeepsOthers X A) (h : Blk A b l e) (a : Array Value) (e' : TypeId) : KeepsOthers X (A.putObj b (.cells a e')) :=
  k.trans (by have := KO.put (l' := a.toList) (e' := e') h; simpa using this)
theorem KO.allocO {X A : World} (k : KeepsOthers X A) (o : Obj) : KeepsOthers X (A.alloc o) := k.trans (KeepsOthers.alloc _ _)
theorem KO.drewO {X A : World} (k : KeepsOthers X A) : KeepsOthers X A.drew := k.trans (KeepsOthers.drew _)
theorem KO.below {X A B : World} {m : Nat} (k : KeepsOthers X A) (h : Below m A B) (hm : A.heap.size ≤ m) : KeepsOthers X B :=
  k.trans ⟨h.size, fun i o hi _ => (h.block i (by have := (Array.getElem?_eq_some_iff.1 hi).1; omega)).trans hi⟩
theorem body_n {B k : Nat} {I : Nat → World → Prop} {Ix : Code → Nat → World → Prop} {A A' : World} {F : Fr} {ds : List Deferred} (hk : KeepsOthers A A') (h : I (k + 1) A') : bodyQ B KeepsWalks I Ix k A .normal F ds A' := ⟨hk.from B, hk.walks, h⟩
theorem body_r {B k : Nat} {Kp : World → World → Prop} {I : Nat → World → Prop} {Ix : Code → Nat → World → Prop} {A A' : World} {F : Fr} {ds : List Deferred} (hk : KeepsOthers A A') (h : Ix .ret (k + 1) A') : bodyQ B Kp I Ix k A .ret F ds A' := ⟨hk.from B, h⟩
theorem body_e {B k i : Nat} {Kp : World → World → Prop} {I : Nat → World → Prop} {Ix : Code → Nat → World → Prop} {A A' : World} {F : Fr} {ds : List Deferred} (hk : KeepsOthers A A') (h : Ix (.exit i) (k + 1) A') : bodyQ B Kp I Ix k A (.exit i) F ds A' := ⟨hk.from B, h⟩
theorem Below.calmW {m B : Nat} {A A' : World} (h : Below m A A') (hn : A.heap.size ≤ m) : CalmW B A A' :=
  ⟨h.os, h.tape, h.output, h.size, fun r o ho _ => (h.block r (by have := lt_of_some ho; omega)).trans ho⟩
end mem
end Sx
end Go.Proofs.Ytoljcnlmockpcaa
