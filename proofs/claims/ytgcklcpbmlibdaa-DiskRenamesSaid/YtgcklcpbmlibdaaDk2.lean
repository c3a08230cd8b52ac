/- Bytes put together: slices.Grow and slices.Concat. -/
import Derived.Test.YtgcklcpbmlibdaaDk1
import Derived.Laws.AppendOwn
namespace Go.Proofs.Ytgcklcpbmlibdaa
set_option maxRecDepth 100000
namespace Dk
open Go Go.RowKit Sx
theorem own_cap {w : World} {base nn : Nat} {e : TypeId} {size : Nat} {v : Value} {xs : List Value} (h : w.ownsRow base e size v nn xs) : ∃ a c, v = .slice a nn c ∧ nn ≤ c := by
  obtain ⟨_, ⟨rfl, rfl⟩ | ⟨g, cap, cur, rfl, _, _, hc, _⟩⟩ := h
  · exact ⟨_, _, rfl, Nat.le_refl _⟩
  · exact ⟨_, _, rfl, hc⟩
section rules
variable {P : Program} {rd : Option Nat} {n : Nat} {ops : Array Oper} {Q : Post} {rest : List Oper} {F : Fr} {ds : List Deferred} {w : World} {ty : TypeId} {pos : String} {after : Array Edge}
theorem run_append_make (t ti ty e : TypeId) (i : TypeInfo) (z : Value) (m : Nat) {q : IntKind} (ht : P.underlying t = some (.slice e)) (hti : P.underlying ti = some (.int q)) (hi : P.info? e = some i) (hz : i.zero = some z) (hs : i.size = 1) (hby : i.bytes = 1)
    (h0 : 0 < m) (h40 : m ≤ 1099511627776) :
    (Builtin.append_ #[t, ti] ty #[.slice none 0 0, .int .i64 (m : Int)]).run P w =
      .ok (.slice (some ⟨w.heap.size, 0, none⟩) m (grownCap w m 0 e)) (w.drew.alloc (.cells (Builtin.zeroCells z.cells m ++ Builtin.zeroCells z.cells (grownCap w m 0 e - m)) e)) := by
  have hn : m ≠ 0 := by omega
  have hw : IntKind.i64.wrap (m : Int) = (m : Int) := wi64 (by omega) (by omega)
  have h48' : ¬ (281474976710656 < Builtin.nextslicecap m 0) := by rw [nextslicecap_zero h0]; omega
  have h1 : ¬ ((m : Int) < 0) := by omega
  have h2 : ¬ (281474976710656 < (m : Int)) := by omega
  have h63' : ¬ (9223372036854775807 < (m : Int)) := by omega
  simp [Builtin.append_, run_underlying ht, run_underlying hti, sizeOf, typeInfo, zeroValue, hi, hz, hs, hby, asInt, asIntOf, hw, h1, h2, hn, h63', h48', Question.forced, Builtin.firstCells, newRow, grownCap]
theorem Lst_appmake {d m : Nat} {s y : Operand} {t ti e : TypeId} {i : TypeInfo} {z : Value} {q : IntKind} (hs' : ev F s = .slice none 0 0) (hy : ev F y = .int .i64 (m : Int)) (ht : P.underlying t = some (.slice e)) (hti : P.underlying ti = some (.int q)) (hi : P.info? e = some i) (hz : i.zero = some z) (hs : i.size = 1) (hby : i.bytes = 1) (hz1 : z.cells.size = 1) (hd : Nat.blt d n = true)
    (h0 : 0 < m) (h40 : m ≤ 1099511627776)
    (h : ∀ cap cur w', m ≤ cap → cap ≤ maxLen → w'.heap[w.heap.size]? = some (.cells cur e (0, 0)) → cur.size = cap → Below w.heap.size w w' → w'.heap.size = w.heap.size + 1 → Lst P rd n ops Q rest (upd F d (.slice (some ⟨w.heap.size, 0, none⟩) m cap)) ds w') :
    Lst P rd n ops Q (⟨some d, .call { callee := .builtin .append, args := #[s, y], argTypes := #[t, ti] }, ty, pos, after, none⟩ :: rest) F ds w := by
  have hrun := run_append_make (P := P) (w := w) t ti ty e i z m ht hti hi hz hs hby h0 h40
  have hge := grownCap_ge w m 0 e
  have hrun2 : (execOp (ev F) ⟨some d, .call { callee := .builtin .append, args := #[s, y], argTypes := #[t, ti] }, ty, pos, after, none⟩).run P w = .ok (.value (.slice (some ⟨w.heap.size, 0, none⟩) m (grownCap w m 0 e))) (w.drew.alloc (.cells (Builtin.zeroCells z.cells m ++ Builtin.zeroCells z.cells (grownCap w m 0 e - m)) e)) := by
    simp [execOp, resolve, invoke, builtin, hs', hy, hrun]
  refine Lst_value rfl hrun2 hd (h _ _ _ hge (grownCap_le_maxLen w m 0 e (by simp only [maxLen]; omega)) (MapKept.heap_alloc w.drew _).1 ?_ (((Below.refl _ _).drew).alloc (Nat.le_refl _) _) (World.size_alloc ..))
  simp [Builtin.zeroCells, hz1]
  omega
theorem P_lcap {x : Operand} {t e : TypeId} {b : Option Addr} {l c : Nat} (hx : ev F x = .slice b l c) (ht : P.underlying t = some (.slice e)) : Pu P F (.call { callee := .builtin .cap, args := #[x], argTypes := #[t] }) ty (.int .i64 c) :=
  fun dst pos after w => by simp [execOp, resolve, invoke, builtin, hx, Builtin.cap_, run_underlying ht, goInt]
theorem P_lslice3 {t e sz n' c : Nat} {x hi mx : Operand} {k k' : IntKind} {b : Option Addr} {m' : Int} {i : TypeInfo} (hx : ev F x = .slice b n' c) (hhi : ev F hi = .int k' m') (hmx : ev F mx = .int k m') (ht : P.underlying t = some (.slice e)) (hi' : P.info? e = some i) (hs : i.size = sz) (h1 : 0 ≤ m') (h2 : m' ≤ c) :
    Pu P F (.slice t x none (some hi) (some mx)) ty (sliced b 0 m'.toNat m'.toNat sz) := fun dst pos after w => by
  have hsz : (sizeOf e).run P w = .ok sz w := by simp [sizeOf, typeInfo, hi', hs]
  have h3 : m' ≤ (m'.toNat : Int) := by omega
  simp [execOp, hx, hhi, hmx, Instr.sliceAt, Instr.slice, Instr.sliceBounds, Instr.sliceBound, asIntOf, run_underlying ht, h1, h2, hsz, sliced]
  intro hc
  omega
theorem sliced3 (b : Option Addr) (m : Nat) (hb : ∀ a, b = some a → a.spot = none) : sliced b 0 m m 1 = .slice b m m := by
  unfold sliced
  cases b with
  | none => split <;> simp
  | some a =>
    obtain ⟨x, y, z⟩ := a
    have := hb _ rfl
    subst this
    split <;> simp [add_none]
theorem Ints.cut {zs : List Int} {kk : IntKind} {a : Option Addr} {n' c : Nat} (h : Ints w kk (.slice a n' c) zs) (m : Nat) (hm : m ≤ n') : Ints w kk (sliced a 0 m m 1) (zs.take m) ∧ sliced a 0 m m 1 = .slice a m m := by
  obtain ⟨b, off, cap, h1, h2, h3⟩ := h
  have hl : (zs.take m).length = m ∨ zs = [] ∧ m = 0 := by
    rcases h1 with h1 | ⟨h1, rfl⟩
    · cases h1; left; simp; omega
    · cases h1; right; exact ⟨rfl, by omega⟩
  have e : sliced a 0 m m 1 = .slice a m m := sliced3 a m (fun x hx => by
    rcases h1 with h1 | ⟨h1, _⟩
    · cases h1; cases hx; rfl
    · cases h1; cases hx)
  refine ⟨?_, e⟩
  rw [e]
  rcases h1 with h1 | ⟨h1, rfl⟩
  · cases h1
    have hl' : (zs.take m).length = m := by simp; omega
    refine ⟨b, off, m, .inl (by rw [hl']), fun hz => h2 (by intro e; subst e; simp at hz), fun j hj => ?_⟩
    rw [h3 j (by simp at hj; omega)]
    simp
  · cases h1
    obtain rfl : m = 0 := by omega
    exact ⟨b, off, 0, .inr ⟨rfl, rfl⟩, fun e => absurd rfl e, fun j hj => by simp at hj⟩
theorem Lst_appnone {d m c c' : Nat} {s x : Operand} {t e : TypeId} {i : TypeInfo} {a a' : Option Addr} (hs : ev F s = .slice a m c) (hmc : m ≤ c) (hx : ev F x = .slice a' 0 c') (ht : P.underlying t = some (.slice e)) (hi : P.info? e = some i) (hd : Nat.blt d n = true)
    (h : Lst P rd n ops Q rest (upd F d (.slice a m c)) ds w) : Lst P rd n ops Q (⟨some d, .call { callee := .builtin .append, args := #[s, x], argTypes := #[t, t] }, ty, pos, after, none⟩ :: rest) F ds w := by
  have hrun : (Builtin.append_ #[t, t] ty #[.slice a m c, .slice a' 0 c']).run P w = .ok (.slice a m c) w := by
    cases a <;> cases a' <;> simp [Builtin.append_, run_underlying ht, sizeOf, typeInfo, hi, Builtin.lenOf, hmc, Builtin.firstCells, storeCells, loadCells, loadCellsFrom]
  exact Lst_value rfl (by simp [execOp, resolve, invoke, builtin, hs, hx, hrun]) hd h
/-- Bytes behind a slice; of an empty one it matters not where it lies. -/
def By (w : World) (v : Value) (l : List UInt8) : Prop := Ints w .u8 v (nums l) ∨ (l = [] ∧ ∃ a c, v = .slice a 0 c)
theorem By.form {v : Value} {l : List UInt8} (h : By w v l) : ∃ a c, v = .slice a l.length c := by
  rcases h with h | ⟨rfl, a, c, rfl⟩
  · have := h.form
    rwa [show (nums l).length = l.length by simp [nums]] at this
  · exact ⟨a, c, rfl⟩
theorem By.below {v : Value} {l : List UInt8} {B : Nat} {w' : World} (h : By w v l) (hb : Below B w w') (hB : w.heap.size ≤ B) : By w' v l := by
  rcases h with h | h
  · exact .inl (Ints.below h hb hB)
  · exact .inr h
/-- append(s, x...) of bytes that are only read. -/
theorem Lst_appints {d base nn : Nat} {s x : Operand} {t e : TypeId} {i : TypeInfo} {z v u : Value} {xs : List Value} {l : List UInt8} (hown : w.ownsRow base e 1 v nn xs) (hu : By w u l) (hs : ev F s = v) (hx : ev F x = u) (ht : P.underlying t = some (.slice e)) (hi : P.info? e = some i) (hz : i.zero = some z)
    (hsize : i.size = 1) (hby : i.bytes = 1) (hzs : z.cells.size = 1) (hd : Nat.blt d n = true) (hbytes : nn + l.length ≤ 140737488355328) (hbase : base ≤ w.heap.size)
    (h : ∀ v' w', w'.ownsRow base e 1 v' (nn + l.length) (xs ++ l.map bc) → w.grownBy w' v.ownBlock → Lst P rd n ops Q rest (upd F d v') ds w') :
    Lst P rd n ops Q (⟨some d, .call { callee := .builtin .append, args := #[s, x], argTypes := #[t, t] }, ty, pos, after, none⟩ :: rest) F ds w := by
  have hlen : (nums l).length = l.length := by simp [nums]
  have hlast : ∀ a' c', u = .slice a' 0 c' → l = [] → Lst P rd n ops Q (⟨some d, .call { callee := .builtin .append, args := #[s, x], argTypes := #[t, t] }, ty, pos, after, none⟩ :: rest) F ds w := by
    rintro a' c' rfl rfl
    obtain ⟨a, c, rfl, hc⟩ := own_cap hown
    exact Lst_appnone hs hc hx ht hi hd (h _ _ (by simpa using hown) ⟨rfl, rfl, rfl, Nat.le_refl _, fun _ _ _ => rfl⟩)
  rcases hu with ⟨b, off, cap, h1, h2, h3⟩ | ⟨hl, a', c', hv⟩
  rotate_left
  · exact hlast a' c' hv hl
  rcases h1 with rfl | ⟨hv, hz'⟩
  · refine Lst_append (bytes := 1) (news := l.map bc) hs (by rw [hx, hlen]) ht hi hz hsize hby hzs rfl hown (fun j u hu => ?_) (by simp) (fun u hu => ?_) (by omega) (by omega) hbase hd (fun v' w' h1 h2 _ => h v' w' h1 h2)
    · rw [List.getElem?_map] at hu
      obtain ⟨y, hy, rfl⟩ := Option.map_eq_some_iff.1 hu
      have hj := (List.getElem?_eq_some_iff.1 hy).1
      rw [h3 j (by omega)]
      have : l[j] = y := by rw [List.getElem?_eq_getElem hj] at hy; exact Option.some.inj hy
      simp [nums, bc, this]
    · simp only [List.mem_map] at hu
      obtain ⟨y, _, rfl⟩ := hu
      rfl
  · exact hlast _ _ hv (by cases l with | nil => rfl | cons => simp [nums] at hz')
end rules
attribute [local irreducible] W Lst Qst Pu seqQ blkQ rndQ cutQ retQ Does Enters IntKind.wrap bits sb World.alloc World.putObj Blk
theorem own_ge {w : World} {base nn : Nat} {e : TypeId} {size : Nat} {v : Value} {xs : List Value} (h : w.ownsRow base e size v nn xs) (j : Nat) (hj : v.ownBlock = some j) : base ≤ j := by
  obtain ⟨_, ⟨rfl, _⟩ | ⟨g, cap, cur, rfl, hb, _⟩⟩ := h
  · cases hj
  · cases hj; exact hb
theorem c_Grow (m : Nat) (hm : m ≤ 1099511627776) (w : World) : Does Try.prog 37 #[.slice none 0 0, .int .i64 (m : Int)] w fun v w' => w'.ownsRow w.heap.size 5 1 v 0 [] ∧ Below w.heap.size w w' := by
  refine Does_of (args := [.slice none 0 0, .int .i64 (m : Int)]) Try.func37 (by kernel_rfl) rfl rfl rfl rfl rfl ?_
  by_cases h0 : m = 0
  · subst h0
    (refine Ga ?_)
    apply Lst_pu
    · apply P_lcap
      focus rfl
      focus rfl
    focus rfl
    (refine Ga ?_)
    (apply retQ1; (focus rfl))
    exact ⟨World.ownsRow_nil _ _ _ _, Bel⟩
  · (refine Ga ?_)
    apply Lst_pu
    · apply P_lcap
      focus rfl
      focus rfl
    focus rfl
    (refine Ga ?_)
    apply Lst_pu
    · apply P_lcap
      focus rfl
      focus rfl
    focus rfl
    (refine Ga ?_)
    apply Lst_appmake (m := m)
    focus rfl
    focus exact congrArg (Value.int .i64) (show (m : Int) - (((0 : Nat) : Int) - ((0 : Nat) : Int)) = m by omega)
    focus rfl
    focus rfl
    focus rfl
    focus rfl
    focus rfl
    focus rfl
    focus rfl
    focus rfl
    focus omega
    focus exact hm
    intro cap cur w1 hmc hcm hw hcur hb1 hs1
    (refine Ga ?_)
    apply retQ1 (v := .slice (some ⟨w.heap.size, 0, none⟩) 0 cap)
    · show Value.slice (if cap = 0 then _ else _) _ _ = _
      rw [if_neg (by omega)]
      simp [add_none]
    · exact ⟨⟨rfl, .inr ⟨w.heap.size, cap, cur, rfl, Nat.le_refl _, hw, Nat.zero_le _, hcm, by omega, by simp⟩⟩, hb1⟩
def acc2 (a b : Nat) : Nat → Int
  | 0 => 0
  | 1 => a
  | _ => ((a + b : Nat) : Int)
def accN (a b : Nat) : Nat → Nat
  | 0 => 0
  | 1 => a
  | _ => a + b
def pre2 (l k : List UInt8) : Nat → List UInt8
  | 0 => []
  | 1 => l
  | _ => l ++ k
theorem c_Concat (B : Nat) (u v : Value) (l k : List UInt8) (hl : l.length + k.length ≤ 1099511627776) (w : World) (hb : Blk w B [u, v] 22) (hu : By w u l) (hv : By w v k) :
    Does Try.prog 30 #[.slice (some ⟨B, 0, none⟩) 2 2] w fun r w' => (∃ a c, r = .slice a (l.length + k.length) c ∧ l.length + k.length ≤ c) ∧ Ints w' .u8 r (nums (l ++ k)) ∧ Below w.heap.size w w' := by
  refine Does_of (args := [.slice (some ⟨B, 0, none⟩) 2 2]) Try.func30 (by kernel_rfl) rfl rfl rfl rfl rfl ?_
  obtain ⟨u1, uc, rfl⟩ := hu.form
  obtain ⟨v1, vc, rfl⟩ := hv.form
  have hlt := hb.lt
  (refine Ga ?_)
  refine W_loop (α := Nat) (fun i => [(3, .int .i64 (acc2 l.length k.length i)), (9, .slice (some ⟨B, 0, none⟩) 2 2), (10, .int .i64 2), (11, .int .i64 (i : Int)), (0, .slice (some ⟨B, 0, none⟩) 2 2)])
    (fun i A => i ≤ 2 ∧ A = w) (fun i _ => 2 - i) 0 ⟨by omega, rfl⟩ ⟨rfl, rfl, rfl, rfl, rfl, trivial⟩ ?_
  rintro J i A ⟨hi, rfl⟩
  obtain rfl | rfl | rfl : i = 0 ∨ i = 1 ∨ i = 2 := by omega
  · simp only [acc2]
    (refine Ga ?_)
    refine rndQ_n (α := Nat) 1 ⟨by omega, rfl⟩ ⟨?_, rfl, rfl, rfl, rfl, trivial⟩ (by omega)
    show Value.int .i64 ((0 : Int) + (l.length : Int)) = .int .i64 (l.length : Int)
    rw [Int.zero_add]
  · simp only [acc2]
    (refine Ga ?_)
    refine rndQ_n (α := Nat) 2 ⟨by omega, rfl⟩ ⟨?_, rfl, rfl, rfl, rfl, trivial⟩ (by omega)
    show Value.int .i64 ((l.length : Int) + (k.length : Int)) = .int .i64 ((l.length + k.length : Nat) : Int)
    rw [Int.natCast_add]
  · simp only [acc2]
    (refine Ga ?_)
    (apply Lst_call; (focus rfl); (focus rfl))
    refine (c_Grow (l.length + k.length) hl _).mono ?_
    rintro v w1 ⟨hown, hb1⟩
    (refine Ga ?_)
    refine W_loop (α := Nat × Value) (fun x => [(6, x.2), (25, .slice (some ⟨B, 0, none⟩) 2 2), (26, .int .i64 2), (27, .int .i64 (x.1 : Int))])
      (fun x C => x.1 ≤ 2 ∧ C.ownsRow A.heap.size 5 1 x.2 (accN l.length k.length x.1) ((pre2 l k x.1).map bc) ∧ Below A.heap.size A C) (fun x _ => 2 - x.1) (0, v) ⟨by omega, hown, hb1⟩ ⟨rfl, rfl, rfl, rfl, trivial⟩ ?_
    clear hown hb1 v w1
    rintro J ⟨i, v⟩ C ⟨hi, hown, hb1⟩
    dsimp only at hi hown ⊢
    have hsz := hb1.size
    obtain rfl | rfl | rfl : i = 0 ∨ i = 1 ∨ i = 2 := by omega
    · (refine Ga ?_)
      apply Lst_appints (hown := hown) (l := l)
      focus exact By.below hu hb1 (Nat.le_refl _)
      focus rfl
      focus rfl
      focus rfl
      focus rfl
      focus rfl
      focus rfl
      focus rfl
      focus rfl
      focus rfl
      focus (simp only [accN]; omega)
      focus exact hsz
      intro v' w' hown' hg
      have hb' := Below.grown hb1 hg hsz (fun j hj => own_ge hown j hj)
      obtain ⟨v1', v2', v3', rfl⟩ := own_slice hown'
      (refine Ga ?_)
      refine rndQ_n (α := Nat × Value) (1, _) ⟨by dsimp only; omega, ?_, hb'⟩ ⟨rfl, rfl, rfl, rfl, trivial⟩ (by dsimp only; omega)
      simpa [accN, pre2] using hown'
    · (refine Ga ?_)
      apply Lst_appints (hown := hown) (l := k)
      focus exact By.below hv hb1 (Nat.le_refl _)
      focus rfl
      focus rfl
      focus rfl
      focus rfl
      focus rfl
      focus rfl
      focus rfl
      focus rfl
      focus rfl
      focus (simp only [accN]; omega)
      focus exact hsz
      intro v' w' hown' hg
      have hb' := Below.grown hb1 hg hsz (fun j hj => own_ge hown j hj)
      obtain ⟨v1', v2', v3', rfl⟩ := own_slice hown'
      (refine Ga ?_)
      refine rndQ_n (α := Nat × Value) (2, _) ⟨by dsimp only; omega, ?_, hb'⟩ ⟨rfl, rfl, rfl, rfl, trivial⟩ (by dsimp only; omega)
      simpa [accN, pre2] using hown'
    · (refine Ga ?_)
      have hown2 : C.ownsRow A.heap.size 5 1 v (l.length + k.length) ((l ++ k).map bc) := hown
      apply retQ1 (v := v)
      focus rfl
      refine ⟨own_cap hown2, ?_, hb1⟩
      rw [← nums_map] at hown2
      exact Ints.of_own hown2
end Dk
end Go.Proofs.Ytgcklcpbmlibdaa
