/- wire.Reader: what may fail: Fail, take; and Try, which tells it. -/
import Derived.Test.YtoljcnlmockpcaaWire2
import Derived.Test.YtoljcnlmockpcaaSxMap
import Derived.Test.YtoljcnlmockpcaaSxFail
namespace Go.Proofs.Ytoljcnlmockpcaa
set_option maxRecDepth 100000
namespace Wire
open Go Go.RowKit Sx
section rules
variable {P : Program} {F : Fr} {w : World} {ty : TypeId}
theorem P_lslice3 {t e sz n' c : Nat} {x hi mx : Operand} {k k' : IntKind} {b : Option Addr} {m' : Int} {i : TypeInfo} (hx : ev F x = .slice b n' c) (hhi : ev F hi = .int k' m') (hmx : ev F mx = .int k m') (ht : P.underlying t = some (.slice e)) (hi' : P.info? e = some i) (hs : i.size = sz) (h1 : 0 ≤ m') (h2 : m' ≤ c) :
    Pu P F (.slice t x none (some hi) (some mx)) ty (sliced b 0 m'.toNat m'.toNat sz) := fun dst pos after w => by
  have hsz : (sizeOf e).run P w = .ok sz w := by simp [sizeOf, typeInfo, hi', hs]
  have h3 : m' ≤ (m'.toNat : Int) := by omega
  simp [execOp, hx, hhi, hmx, Instr.sliceAt, Instr.slice, Instr.sliceBounds, Instr.sliceBound, asIntOf, run_underlying ht, h1, h2, hsz, sliced]
  intro hc
  omega
theorem sliced3 (b : Option Addr) (m : Nat) (hb : ∀ a, b = some a → a.spot = none) : sliced b 0 m m 1 = .slice b m m := by
  unfold sliced
  cases b with
  | none => split <;> simp
  | some a =>
    obtain ⟨x, y, z⟩ := a
    have := hb _ rfl
    subst this
    split <;> simp [add_none]
theorem Ints.cut {zs : List Int} {kk : IntKind} {a : Option Addr} {n' c : Nat} (h : Ints w kk (.slice a n' c) zs) (m : Nat) (hm : m ≤ n') : Ints w kk (sliced a 0 m m 1) (zs.take m) ∧ sliced a 0 m m 1 = .slice a m m := by
  obtain ⟨b, off, cap, h1, h2, h3⟩ := h
  have hl : (zs.take m).length = m ∨ zs = [] ∧ m = 0 := by
    rcases h1 with h1 | ⟨h1, rfl⟩
    · cases h1; left; simp; omega
    · cases h1; right; exact ⟨rfl, by omega⟩
  have e : sliced a 0 m m 1 = .slice a m m := sliced3 a m (fun x hx => by
    rcases h1 with h1 | ⟨h1, _⟩
    · cases h1; cases hx; rfl
    · cases h1; cases hx)
  refine ⟨?_, e⟩
  rw [e]
  rcases h1 with h1 | ⟨h1, rfl⟩
  · cases h1
    have hl' : (zs.take m).length = m := by simp; omega
    refine ⟨b, off, m, .inl (by rw [hl']), fun hz => h2 (by intro e; subst e; simp at hz), fun j hj => ?_⟩
    rw [h3 j (by simp at hj; omega)]
    simp
  · cases h1
    obtain rfl : m = 0 := by omega
    exact ⟨b, off, 0, .inr ⟨rfl, rfl⟩, fun e => absurd rfl e, fun j hj => by simp at hj⟩
end rules
/-- What a failure panics with. -/
def badV (e : Int) : Value := .iface 117 (.agg #[.int .i64 e])
/-- A reader in a block of its own: bytes that are left, its failure. -/
def RdAt (w : World) (b : Nat) (l : List UInt8) (e : Int) : Prop := ∃ a c, Blk w b [.slice a l.length c, .int .i64 e] 109 ∧ Ints w .u8 (.slice a l.length c) (nums l) ∧ l.length ≤ c ∧ (l ≠ [] → ∀ x, a = some x → x.block < b)
/-- A block without bytes. -/
def N8 (w : World) (b : Nat) : Prop := ∀ off z, w.cell? ⟨b, off, none⟩ ≠ some (.int .u8 z)
theorem Ints.chg {bs : List Nat} {w w' : World} {v : Value} {zs : List Int} (h : Ints w .u8 v zs) (hc : Chg bs w w') (h8 : ∀ b ∈ bs, N8 w b) : Ints w' .u8 v zs := by
  obtain ⟨b, off, cap, h1, h2, h3⟩ := h
  refine ⟨b, off, cap, h1, fun hz => Nat.lt_of_lt_of_le (h2 hz) hc.size, fun j hj => ?_⟩
  have hlt := h2 (by intro e; subst e; simp at hj)
  have hnb : b ∉ bs := fun hb => h8 b hb _ _ (h3 j hj)
  have e : w'.cell? ⟨b, off + j, none⟩ = w.cell? ⟨b, off + j, none⟩ := by simp only [World.cell?, hc.block b hlt hnb]
  rw [e]
  exact h3 j hj
theorem N8.rd {w : World} {b m c : Nat} {a : Option Addr} {z : Int} {e : TypeId} (h : Blk w b [.slice a m c, .int .i64 z] e) : N8 w b := fun off z => by
  rw [h.cell off]
  rcases off with _ | _ | off <;> simp
theorem nums_length (l : List UInt8) : (nums l).length = l.length := by unfold nums; rw [List.length_map]
theorem nums_take (l : List UInt8) (m : Nat) : (nums l).take m = nums (l.take m) := by unfold nums; rw [List.map_take]
theorem nums_drop (l : List UInt8) (m : Nat) : (nums l).drop m = nums (l.drop m) := by unfold nums; rw [List.map_drop]
theorem below_cut {b n c : Nat} {a : Option Addr} {l : List UInt8} (hx : l ≠ [] → ∀ x, a = some x → x.block < b) : l.drop n ≠ [] → ∀ x, (if c = n then a else a.map (·.add (n * 1))) = some x → x.block < b := by
  intro hd x he
  have hl : l ≠ [] := fun e => hd (by rw [e, List.drop_nil])
  split at he
  · exact hx hl x he
  · cases a with
    | none => cases he
    | some y =>
      cases he
      have e : (y.add (n * 1)).block = y.block := by unfold Addr.add; (first | rfl | (split <;> rfl))
      exact e ▸ hx hl y rfl
theorem RdAt.lt {w : World} {b : Nat} {l : List UInt8} {e : Int} (h : RdAt w b l e) : b < w.heap.size := by
  obtain ⟨_, _, hb, _⟩ := h
  exact hb.lt
theorem RdAt.below {w w' : World} {b B : Nat} {l : List UInt8} {e : Int} (h : RdAt w b l e) (hb : Below B w w') (hB : w.heap.size ≤ B) : RdAt w' b l e := by
  obtain ⟨a, c, h1, h2, h3⟩ := h
  exact ⟨a, c, h1.below hb (Nat.lt_of_lt_of_le h1.lt hB), Ints.below h2 hb hB, h3⟩
theorem RdAt.chg {w w' : World} {b : Nat} {bs : List Nat} {l : List UInt8} {e : Int} (h : RdAt w b l e) (hc : Chg bs w w') (hn : b ∉ bs) (h8 : ∀ b ∈ bs, N8 w b) : RdAt w' b l e := by
  obtain ⟨a, c, h1, h2, h3⟩ := h
  exact ⟨a, c, hc.blk h1 hn, Ints.chg h2 hc h8, h3⟩
/-- A failure left the reader's block what it is, and nothing else turned. -/
def Bad (w : World) (b : Nat) : Value → World → Prop := fun v w' => (∃ e : Int, v = badV e ∧ e ≠ 0) ∧ Chg [b] w w' ∧ ∃ x c y, Blk w' b [.slice x c y, .int .i64 0] 109
attribute [local irreducible] W Lst Qst Pu seqQ blkQ rndQ cutQ retQ Does Enters IntKind.wrap bits sb World.alloc World.putObj Blk
theorem c_Fail (e : Int) (he : e ≠ 0) (w : World) : Tries Try.prog 66 #[.int .i64 e] w (fun _ _ => False) (fun v w' => v = badV e ∧ w' = w) := by
  refine Tries_of (args := [.int .i64 e]) Try.func66 (by kernel_rfl) rfl rfl rfl rfl rfl ?_
  (refine Ga ?_)
  apply Lst_pu
  · apply P_iface
    focus rfl
    focus exact Try.underlying117
    focus (intro ms; simp)
  focus rfl
  (refine Ga ?_)
  apply Lst_panic
  focus rfl
  repeat (first | apply seqQ_f | apply blkQ_f)
  exact retF_p ⟨rfl, rfl⟩
theorem c_take (b n : Nat) (l : List UInt8) (hn : n ≤ 281474976710656) (w : World) (h : RdAt w b l 0) :
    Tries Try.prog 64 #[.pointer (some ⟨b, 0, none⟩), .int .i64 (n : Int)] w
      (fun v w' => n ≤ l.length ∧ (∃ a, v = .slice a n n ∧ Ints w' .u8 (.slice a n n) (nums (l.take n))) ∧ RdAt w' b (l.drop n) 0 ∧ Chg [b] w w')
      (fun v w' => l.length < n ∧ Bad w b v w') := by
  refine Tries_of (args := [.pointer (some ⟨b, 0, none⟩), .int .i64 (n : Int)]) Try.func64 (by kernel_rfl) rfl rfl rfl rfl rfl ?_
  obtain ⟨a, c, hb, hi, hc, hx⟩ := h
  by_cases hln : l.length < n
  · (refine Ga ?_)
    apply Lst_callF
    focus rfl
    focus rfl
    refine (c_Fail 10 (by decide) w).mono (fun v w' h => h.elim) ?_
    rintro v w' ⟨rfl, rfl⟩
    repeat (first | apply seqQ_f | apply blkQ_f)
    exact retF_p ⟨hln, ⟨_, rfl, by decide⟩, Chg.refl _ _, _, _, _, hb⟩
  · have hn2 : n ≤ l.length := by omega
    (refine Ga ?_)
    apply Lst_pu
    · apply P_lslice3
      focus rfl
      focus rfl
      focus rfl
      focus rfl
      focus rfl
      focus rfl
      focus omega
      focus omega
    focus rfl
    obtain ⟨hcut, hce⟩ := Ints.cut hi n hn2
    have hsub := Ints.sub hi hc hn2 (Nat.le_refl l.length)
    rw [nums_take] at hcut
    rw [show ((nums l).take l.length).drop n = nums (l.drop n) by rw [nums_take, List.take_length, nums_drop]] at hsub
    (refine Ga ?_)
    apply retF_r
    (apply retQ1; (focus rfl))
    have hch : Chg [b] w (w.putObj b (.cells [sliced a n l.length c 1, .int .i64 0].toArray 109)) := (Chg.refl _ _).put (by simp) _
    have h8 : ∀ g ∈ [b], N8 w g := by
      intro g hg
      obtain rfl : g = b := by simpa using hg
      exact N8.rd hb
    have h1 := Ints.chg hcut hch h8
    have h2 := Ints.chg hsub hch h8
    refine ⟨hn2, ⟨a, hce, by rw [← hce]; exact h1⟩, ⟨_, c - n, ?_, by rw [List.length_drop]; exact h2, by rw [List.length_drop]; omega, below_cut hx⟩, hch⟩
    rw [List.length_drop]
    exact Blk.put_same hb.lt _ _
theorem D_ok (B : Nat) (w : World) : CallsDIn Fence.wide 0 Try.prog 76 [.pointer (some ⟨B, 0, none⟩)].toArray .returning w fun e v w' => (∃ x, e = .returned x) ∧ v = .returning ∧ w' = w := by
  refine D_recover (args := [.pointer (some ⟨B, 0, none⟩)]) (rv := .nilIface) Try.func76 rfl rfl rfl rfl rfl (.inr ⟨rfl, rfl, rfl⟩) ?_
  (refine Ga ?_)
  apply Lst_pu
  · apply P_ifnil (r := true)
    focus rfl
    focus rfl
    focus exact .inl ⟨rfl, rfl⟩
  focus rfl
  (refine Ga ?_)
  exact ⟨rfl, rfl⟩
theorem D_bad (B : Nat) (e : Int) (w : World) (hB : Blk w B [.int .i64 0] 29) : CallsDIn Fence.wide 0 Try.prog 76 [.pointer (some ⟨B, 0, none⟩)].toArray (.panicking [{ v := badV e, recovered := false }]) w fun x v w' => (∃ y, x = .returned y) ∧ v = .panicking [{ v := badV e, recovered := true }] ∧ (Blk w' B [.int .i64 e] 29 ∧ Chg [B] w w') := by
  refine D_recover (args := [.pointer (some ⟨B, 0, none⟩)]) (rv := badV e) Try.func76 rfl rfl rfl rfl rfl (.inl ⟨rfl, rfl⟩) ?_
  have hlt := hB.lt
  (refine Ga ?_)
  apply Lst_pu
  · apply P_ifnil (r := false)
    focus rfl
    focus rfl
    focus exact .inr ⟨_, _, rfl, rfl⟩
  focus rfl
  (refine Ga ?_)
  apply Lst_pu
  · apply P_assert (v := .agg #[.int .i64 e])
    focus rfl
    focus exact Try.underlying117
    focus (intro ms; simp)
  focus rfl
  (refine Ga ?_)
  refine ⟨rfl, (by (repeat (first | assumption | (apply Blk.below (hb := hb1); rotate_left; (focus ((try simp only [Sx.sizes]); omega)); rotate_right) | (apply Blk.below (hb := hb2); rotate_left; (focus ((try simp only [Sx.sizes]); omega)); rotate_right) | (apply Blk.below (hb := hb3); rotate_left; (focus ((try simp only [Sx.sizes]); omega)); rotate_right) | (apply Blk.below (hb := hb4); rotate_left; (focus ((try simp only [Sx.sizes]); omega)); rotate_right) | (apply Blk.below (hb := hb5); rotate_left; (focus ((try simp only [Sx.sizes]); omega)); rotate_right) | (apply Blk.below (hb := hb6); rotate_left; (focus ((try simp only [Sx.sizes]); omega)); rotate_right) | (apply Blk.below (hb := hb7); rotate_left; (focus ((try simp only [Sx.sizes]); omega)); rotate_right) | (apply Blk.below (hb := hb8); rotate_left; (focus ((try simp only [Sx.sizes]); omega)); rotate_right) | (apply Blk.below (hb := hb9); rotate_left; (focus ((try simp only [Sx.sizes]); omega)); rotate_right) | exact Blk.newE (by first | rfl | ((try simp only [Sx.sizes]); first | done | omega)) _ _ | exact Blk.put_same (by (try simp only [Sx.sizes]); first | done | omega) _ _ | (apply Blk.put_ne; (focus omega)) | apply Blk.alloc | apply Blk.drew)); done), ?_⟩
  exact (((Chg.refl [B] w).alloc _).put (.inr (Nat.le_refl _)) _).put (.inl (by simp)) _
/-- Try tells what failed within a function. -/
theorem c_Try (g : Nat) (caps : List Value) (w : World) (R : World → Prop) (K : Int → World → Prop)
    (h : Tries Try.prog g caps.toArray (w.alloc (.cells [.int .i64 0].toArray 29)) (fun _ w' => R w' ∧ Blk w' w.heap.size [.int .i64 0] 29) (fun v w' => ∃ e, v = badV e ∧ K e w' ∧ Blk w' w.heap.size [.int .i64 0] 29)) :
    Does Try.prog 71 #[.func (.func g) #[] caps.toArray] w fun v w' => ∃ w1, ((v = .int .i64 0 ∧ R w1) ∨ ∃ e, v = .int .i64 e ∧ K e w1) ∧ Chg [w.heap.size] w1 w' := by
  refine Tries.does (Tries_of_defers (args := [.func (.func g) #[] caps.toArray]) (R := fun v w' => ∃ w1, ((v = .int .i64 0 ∧ R w1) ∨ ∃ e, v = .int .i64 e ∧ K e w1) ∧ Chg [w.heap.size] w1 w') (K := fun _ _ => False) Try.func71 (by kernel_rfl) rfl rfl rfl ?_)
  have hE : Enters Try.prog 76 := enters_of Try.func76 (by kernel_rfl) rfl
  (refine Ga ?_)
  apply Lst_defer (cs := [.pointer (some ⟨w.heap.size, 0, none⟩)])
  focus rfl
  (refine Ga ?_)
  apply Lst_callF (cs := caps)
  focus rfl
  focus rfl
  refine h.mono ?_ ?_
  · rintro v w1 ⟨hR, hb⟩
    have hlt := hb.lt
    (refine Ga ?_)
    intro t ht hs
    refine leave1 (cs := [.pointer (some ⟨w.heap.size, 0, none⟩)]) (by simp) hE _ (D_ok _ _) ?_
    rintro w' rfl
    have hq : retQ Try.prog [.cell 2 29] (fun v w' => ∃ w1, ((v = .int .i64 0 ∧ R w1) ∨ ∃ e, v = .int .i64 e ∧ K e w1) ∧ Chg [w.heap.size] w1 w') .ret _ [] (w1.putObj w.heap.size (.cells [.int .i64 0].toArray 29)) :=
      retQ1c (F := fun i => t.getD i undef) (hs 2) Try.underlying29 rfl (Blk.put_same hlt _ _) ⟨w1, .inl ⟨rfl, hR⟩, (Chg.refl _ _).put (by simp) _⟩
    unfold retQ at hq
    obtain ⟨_, vs, hv, hR'⟩ := hq
    exact ⟨_, run_results (rs := [.cell 2 29]) rfl (by decide) (⟨ht, rfl, fun _ => rfl⟩ : Fits _ _ [] ⟨t, []⟩) hv, hR'⟩
  · rintro v w1 ⟨e, rfl, hK, hb⟩
    have hlt := hb.lt
    repeat (first | apply seqQ_f | apply blkQ_f)
    intro t ht hs
    refine leave1 (cs := [.pointer (some ⟨w.heap.size, 0, none⟩)]) (by simp) hE _ (D_bad _ e _ hb) ?_
    rintro w' ⟨hb', hc'⟩
    have hq : retQ Try.prog [.cell 2 29] (fun v w' => ∃ w1, ((v = .int .i64 0 ∧ R w1) ∨ ∃ e, v = .int .i64 e ∧ K e w1) ∧ Chg [w.heap.size] w1 w') .ret _ [] w' :=
      retQ1c (F := fun i => t.getD i undef) (hs 2) Try.underlying29 rfl hb' ⟨w1, .inr ⟨e, rfl, hK⟩, hc'⟩
    unfold retQ at hq
    obtain ⟨_, vs, hv, hR'⟩ := hq
    exact ⟨_, run_results (rs := [.cell 2 29]) rfl (by decide) (⟨ht, rfl, fun _ => rfl⟩ : Fits _ _ [] ⟨t, []⟩) hv, hR'⟩
end Wire
end Go.Proofs.Ytoljcnlmockpcaa
