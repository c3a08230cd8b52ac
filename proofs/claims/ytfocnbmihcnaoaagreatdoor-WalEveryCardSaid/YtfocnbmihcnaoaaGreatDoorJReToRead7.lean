/- Merged: Re, Read7. -/
import Derived.Test.YtfocnbmihcnaoaaGreatDoorJPlaceToWDkRead
import Derived.Test.YtfocnbmihcnaoaaGreatDoorJSxEToSxR
namespace Go.Proofs.YtfocnbmihcnaoaaGreatDoor
set_option maxRecDepth 100000
namespace Wire
open Go Go.RowKit Sx
section rules
variable {P : Program} {F : Fr} {w : World} {ty : TypeId}
theorem P_lslice3 {t e sz n' c : Nat} {x hi mx : Operand} {k k' : IntKind} {b : Option Addr} {m' : Int} {i : TypeInfo} (hx : ev F x = .slice b n' c) (hhi : ev F hi = .int k' m') (hmx : ev F mx = .int k m') (ht : P.underlying t = some (.slice e)) (hi' : P.info? e = some i) (hs : i.size = sz) (h1 : 0 ≤ m') (h2 : m' ≤ c) :
    Pu P F (.slice t x none (some hi) (some mx)) ty (sliced b 0 m'.toNat m'.toNat sz) := fun dst pos after w => by
  have hsz : (sizeOf e).run P w = .ok sz w := by simp [sizeOf, typeInfo, hi', hs]
  have h3 : m' ≤ (m'.toNat : Int) := by omega
  simp [execOp, hx, hhi, hmx, Instr.sliceAt, Instr.slice, Instr.sliceBounds, Instr.sliceBound, asIntOf, run_underlying ht, h1, h2, hsz, sliced]
  intro hc
  omega
theorem sliced3 (b : Option Addr) (m : Nat) : sliced b 0 m m 1 = .slice b m m := by
  unfold sliced
  cases b with
  | none => split <;> simp
  | some a => split <;> simp [Addr.add]
theorem Ints.cut {zs : List Int} {kk : IntKind} {a : Option Addr} {n' c : Nat} (h : Ints w kk (.slice a n' c) zs) (m : Nat) (hm : m ≤ n') : Ints w kk (sliced a 0 m m 1) (zs.take m) ∧ sliced a 0 m m 1 = .slice a m m := by
  obtain ⟨b, off, cap, h1, h2, h3⟩ := h
  have hl : (zs.take m).length = m ∨ zs = [] ∧ m = 0 := by
    rcases h1 with h1 | ⟨⟨a0, h1⟩, rfl⟩
    · cases h1; left; simp; omega
    · cases h1; right; exact ⟨rfl, by omega⟩
  have e : sliced a 0 m m 1 = .slice a m m := sliced3 a m
  refine ⟨?_, e⟩
  rw [e]
  rcases h1 with h1 | ⟨⟨a0, h1⟩, rfl⟩
  · cases h1
    have hl' : (zs.take m).length = m := by simp; omega
    refine ⟨b, off, m, .inl (by rw [hl']), fun hz => h2 (by intro e; subst e; simp at hz), fun j hj => ?_⟩
    rw [h3 j (by simp at hj; omega)]
    simp
  · cases h1
    obtain rfl : m = 0 := by omega
    exact ⟨b, off, 0, .inr ⟨⟨_, rfl⟩, rfl⟩, fun e => absurd rfl e, fun j hj => by simp at hj⟩
end rules
/-- What a failure panics with. -/
def badV (e : Int) : Value := .iface 178 (.agg #[.int .i64 e])
/-- A reader in a block of its own: bytes that are left, its failure. -/
def RdAt (w : World) (b : Nat) (l : List UInt8) (e : Int) : Prop := ∃ a c, Blk w b [.slice a l.length c, .int .i64 e] 161 ∧ Ints w .u8 (.slice a l.length c) (nums l) ∧ l.length ≤ c ∧ (l ≠ [] → ∀ x, a = some x → x.block < b)
/-- A block without bytes. -/
def N8 (w : World) (b : Nat) : Prop := ∀ off z, w.cell? ⟨b, off, none⟩ ≠ some (.int .u8 z)
theorem Ints.chg {bs : List Nat} {w w' : World} {v : Value} {zs : List Int} (h : Ints w .u8 v zs) (hc : Chg bs w w') (h8 : ∀ b ∈ bs, N8 w b) : Ints w' .u8 v zs := by
  obtain ⟨b, off, cap, h1, h2, h3⟩ := h
  refine ⟨b, off, cap, h1, fun hz => Nat.lt_of_lt_of_le (h2 hz) hc.size, fun j hj => ?_⟩
  have hlt := h2 (by intro e; subst e; simp at hj)
  have hnb : b ∉ bs := fun hb => h8 b hb _ _ (h3 j hj)
  have e : w'.cell? ⟨b, off + j, none⟩ = w.cell? ⟨b, off + j, none⟩ := by simp only [World.cell?, hc.block b hlt hnb]
  rw [e]
  exact h3 j hj
theorem N8.rd {w : World} {b m c : Nat} {a : Option Addr} {z : Int} {e : TypeId} (h : Blk w b [.slice a m c, .int .i64 z] e) : N8 w b := fun off z => by
  rw [h.cell off]
  rcases off with _ | _ | off <;> simp
theorem nums_length (l : List UInt8) : (nums l).length = l.length := by unfold nums; rw [List.length_map]
theorem nums_take (l : List UInt8) (m : Nat) : (nums l).take m = nums (l.take m) := by unfold nums; rw [List.map_take]
theorem nums_drop (l : List UInt8) (m : Nat) : (nums l).drop m = nums (l.drop m) := by unfold nums; rw [List.map_drop]
theorem below_cut {b n c : Nat} {a : Option Addr} {l : List UInt8} (hx : l ≠ [] → ∀ x, a = some x → x.block < b) : l.drop n ≠ [] → ∀ x, (if c = n then a else a.map (·.add (n * 1))) = some x → x.block < b := by
  intro hd x he
  have hl : l ≠ [] := fun e => hd (by rw [e, List.drop_nil])
  split at he
  · exact hx hl x he
  · cases a with
    | none => cases he
    | some y =>
      cases he
      have e : (y.add (n * 1)).block = y.block := by unfold Addr.add; (first | rfl | (split <;> rfl))
      exact e ▸ hx hl y rfl
theorem RdAt.lt {w : World} {b : Nat} {l : List UInt8} {e : Int} (h : RdAt w b l e) : b < w.heap.size := by
  obtain ⟨_, _, hb, _⟩ := h
  exact hb.lt
theorem RdAt.below {w w' : World} {b B : Nat} {l : List UInt8} {e : Int} (h : RdAt w b l e) (hb : Below B w w') (hB : w.heap.size ≤ B) : RdAt w' b l e := by
  obtain ⟨a, c, h1, h2, h3⟩ := h
  exact ⟨a, c, h1.below hb (Nat.lt_of_lt_of_le h1.lt hB), Ints.below h2 hb hB, h3⟩
theorem RdAt.chg {w w' : World} {b : Nat} {bs : List Nat} {l : List UInt8} {e : Int} (h : RdAt w b l e) (hc : Chg bs w w') (hn : b ∉ bs) (h8 : ∀ b ∈ bs, N8 w b) : RdAt w' b l e := by
  obtain ⟨a, c, h1, h2, h3⟩ := h
  exact ⟨a, c, hc.blk h1 hn, Ints.chg h2 hc h8, h3⟩
/-- A failure left the reader's block what it is, and nothing else turned. -/
def Bad (w : World) (b : Nat) : Value → World → Prop := fun v w' => (∃ e : Int, v = badV e ∧ e ≠ 0) ∧ Chg [b] w w' ∧ ∃ x c y, Blk w' b [.slice x c y, .int .i64 0] 161
attribute [local irreducible] W Lst Qst Pu seqQ blkQ rndQ cutQ retQ Does Enters IntKind.wrap bits sb World.alloc World.putObj Blk
theorem c_Fail (e : Int) (he : e ≠ 0) (w : World) : Tries Tryz.prog 129 #[.int .i64 e] w (fun _ _ => False) (fun v w' => v = badV e ∧ w' = w) := by
  refine Tries_of (args := [.int .i64 e]) Tryz.func129 (by kernel_rfl) rfl rfl rfl rfl rfl ?_
  (refine Ga ?_)
  apply Lst_pu
  · apply P_iface
    focus rfl
    focus exact Tryz.underlying178
    focus (intro ms; simp)
  focus rfl
  (refine Ga ?_)
  apply Lst_panic
  focus rfl
  repeat (first | apply seqQ_f | apply blkQ_f)
  exact retF_p ⟨rfl, rfl⟩
theorem c_take (b n : Nat) (l : List UInt8) (hn : n ≤ 281474976710656) (w : World) (h : RdAt w b l 0) :
    Tries Tryz.prog 121 #[.pointer (some ⟨b, 0, none⟩), .int .i64 (n : Int)] w
      (fun v w' => n ≤ l.length ∧ (∃ a, v = .slice a n n ∧ Ints w' .u8 (.slice a n n) (nums (l.take n))) ∧ RdAt w' b (l.drop n) 0 ∧ Chg [b] w w')
      (fun v w' => l.length < n ∧ Bad w b v w') := by
  refine Tries_of (args := [.pointer (some ⟨b, 0, none⟩), .int .i64 (n : Int)]) Tryz.func121 (by kernel_rfl) rfl rfl rfl rfl rfl ?_
  obtain ⟨a, c, hb, hi, hc, hx⟩ := h
  by_cases hln : l.length < n
  · (refine Ga ?_)
    apply Lst_callF
    focus rfl
    focus rfl
    refine (c_Fail 10 (by decide) w).mono (fun v w' h => h.elim) ?_
    rintro v w' ⟨rfl, rfl⟩
    repeat (first | apply seqQ_f | apply blkQ_f)
    exact retF_p ⟨hln, ⟨_, rfl, by decide⟩, Chg.refl _ _, _, _, _, hb⟩
  · have hn2 : n ≤ l.length := by omega
    (refine Ga ?_)
    apply Lst_pu
    · apply P_lslice3
      focus rfl
      focus rfl
      focus rfl
      focus rfl
      focus rfl
      focus rfl
      focus omega
      focus omega
    focus rfl
    obtain ⟨hcut, hce⟩ := Ints.cut hi n hn2
    have hsub := Ints.sub hi hc hn2 (Nat.le_refl l.length)
    rw [nums_take] at hcut
    rw [show ((nums l).take l.length).drop n = nums (l.drop n) by rw [nums_take, List.take_length, nums_drop]] at hsub
    (refine Ga ?_)
    apply retF_r
    (apply retQ1; (focus rfl))
    have hch : Chg [b] w (w.putObj b (.cells [sliced a n l.length c 1, .int .i64 0].toArray 161)) := (Chg.refl _ _).put (by simp) _
    have h8 : ∀ g ∈ [b], N8 w g := by
      intro g hg
      obtain rfl : g = b := by simpa using hg
      exact N8.rd hb
    have h1 := Ints.chg hcut hch h8
    have h2 := Ints.chg hsub hch h8
    refine ⟨hn2, ⟨a, hce, by rw [← hce]; exact h1⟩, ⟨_, c - n, ?_, by rw [List.length_drop]; exact h2, by rw [List.length_drop]; omega, below_cut hx⟩, hch⟩
    rw [List.length_drop]
    exact Blk.put_same hb.lt _ _
theorem D_ok (B : Nat) (w : World) : CallsDIn Fence.wide 0 Tryz.prog 130 [.pointer (some ⟨B, 0, none⟩)].toArray .returning w fun e v w' => (∃ x, e = .returned x) ∧ v = .returning ∧ w' = w := by
  refine D_recover (args := [.pointer (some ⟨B, 0, none⟩)]) (rv := .nilIface) Tryz.func130 rfl rfl rfl rfl rfl (.inr ⟨rfl, rfl, rfl⟩) ?_
  (refine Ga ?_)
  apply Lst_pu
  · apply P_ifnil (r := true)
    focus rfl
    focus rfl
    focus exact .inl ⟨rfl, rfl⟩
  focus rfl
  (refine Ga ?_)
  exact ⟨rfl, rfl⟩
theorem D_bad (B : Nat) (e : Int) (w : World) (hB : Blk w B [.int .i64 0] 29) : CallsDIn Fence.wide 0 Tryz.prog 130 [.pointer (some ⟨B, 0, none⟩)].toArray (.panicking [{ v := badV e, recovered := false }]) w fun x v w' => (∃ y, x = .returned y) ∧ v = .panicking [{ v := badV e, recovered := true }] ∧ (Blk w' B [.int .i64 e] 29 ∧ Chg [B] w w') := by
  refine D_recover (args := [.pointer (some ⟨B, 0, none⟩)]) (rv := badV e) Tryz.func130 rfl rfl rfl rfl rfl (.inl ⟨rfl, rfl⟩) ?_
  have hlt := hB.lt
  (refine Ga ?_)
  apply Lst_pu
  · apply P_ifnil (r := false)
    focus rfl
    focus rfl
    focus exact .inr ⟨_, _, rfl, rfl⟩
  focus rfl
  (refine Ga ?_)
  apply Lst_pu
  · apply P_assert (v := .agg #[.int .i64 e])
    focus rfl
    focus exact Tryz.underlying178
    focus (intro ms; simp)
  focus rfl
  (refine Ga ?_)
  refine ⟨rfl, (by (repeat (first | assumption | (apply Blk.below (hb := hb1); rotate_left; (focus ((try simp only [Sx.sizes]); omega)); rotate_right) | (apply Blk.below (hb := hb2); rotate_left; (focus ((try simp only [Sx.sizes]); omega)); rotate_right) | (apply Blk.below (hb := hb3); rotate_left; (focus ((try simp only [Sx.sizes]); omega)); rotate_right) | (apply Blk.below (hb := hb4); rotate_left; (focus ((try simp only [Sx.sizes]); omega)); rotate_right) | (apply Blk.below (hb := hb5); rotate_left; (focus ((try simp only [Sx.sizes]); omega)); rotate_right) | (apply Blk.below (hb := hb6); rotate_left; (focus ((try simp only [Sx.sizes]); omega)); rotate_right) | (apply Blk.below (hb := hb7); rotate_left; (focus ((try simp only [Sx.sizes]); omega)); rotate_right) | (apply Blk.below (hb := hb8); rotate_left; (focus ((try simp only [Sx.sizes]); omega)); rotate_right) | (apply Blk.below (hb := hb9); rotate_left; (focus ((try simp only [Sx.sizes]); omega)); rotate_right) | exact Blk.newE (by first | rfl | ((try simp only [Sx.sizes]); first | done | omega)) _ _ | exact Blk.put_same (by (try simp only [Sx.sizes]); first | done | omega) _ _ | (apply Blk.put_ne; (focus omega)) | apply Blk.alloc | apply Blk.drew)); done), ?_⟩
  exact (((Chg.refl [B] w).alloc _).put (.inr (Nat.le_refl _)) _).put (.inl (by simp)) _
/-- Try tells what failed within a function. -/
theorem c_Try (g : Nat) (caps : List Value) (w : World) (R : World → Prop) (K : Int → World → Prop)
    (h : Tries Tryz.prog g caps.toArray (w.alloc (.cells [.int .i64 0].toArray 29)) (fun _ w' => R w' ∧ Blk w' w.heap.size [.int .i64 0] 29) (fun v w' => ∃ e, v = badV e ∧ K e w' ∧ Blk w' w.heap.size [.int .i64 0] 29)) :
    Does Tryz.prog 127 #[.func (.func g) #[] caps.toArray] w fun v w' => ∃ w1, ((v = .int .i64 0 ∧ R w1) ∨ ∃ e, v = .int .i64 e ∧ K e w1) ∧ Chg [w.heap.size] w1 w' := by
  refine Tries.does (Tries_of_defers (args := [.func (.func g) #[] caps.toArray]) (R := fun v w' => ∃ w1, ((v = .int .i64 0 ∧ R w1) ∨ ∃ e, v = .int .i64 e ∧ K e w1) ∧ Chg [w.heap.size] w1 w') (K := fun _ _ => False) Tryz.func127 (by kernel_rfl) rfl rfl rfl ?_)
  have hE : Sx.Enters Tryz.prog 130 := Sx.enters_of Tryz.func130 (by kernel_rfl) rfl
  (refine Ga ?_)
  apply Lst_defer (cs := [.pointer (some ⟨w.heap.size, 0, none⟩)])
  focus rfl
  (refine Ga ?_)
  apply Lst_callF (cs := caps)
  focus rfl
  focus rfl
  refine h.mono ?_ ?_
  · rintro v w1 ⟨hR, hb⟩
    have hlt := hb.lt
    (refine Ga ?_)
    intro t ht hs
    refine leave1 (cs := [.pointer (some ⟨w.heap.size, 0, none⟩)]) (by simp) hE _ (D_ok _ _) ?_
    rintro w' rfl
    have hq : retQ Tryz.prog [.cell 2 29] (fun v w' => ∃ w1, ((v = .int .i64 0 ∧ R w1) ∨ ∃ e, v = .int .i64 e ∧ K e w1) ∧ Chg [w.heap.size] w1 w') .ret _ [] (w1.putObj w.heap.size (.cells [.int .i64 0].toArray 29)) :=
      retQ1c (F := fun i => t.getD i undef) (hs 2) Tryz.underlying29 rfl (Blk.put_same hlt _ _) ⟨w1, .inl ⟨rfl, hR⟩, (Chg.refl _ _).put (by simp) _⟩
    unfold retQ at hq
    obtain ⟨_, vs, hv, hR'⟩ := hq
    exact ⟨_, run_results (rs := [.cell 2 29]) rfl (by decide) (⟨ht, rfl, fun _ => rfl⟩ : Fits _ _ [] ⟨t, []⟩) hv, hR'⟩
  · rintro v w1 ⟨e, rfl, hK, hb⟩
    have hlt := hb.lt
    repeat (first | apply seqQ_f | apply blkQ_f)
    intro t ht hs
    refine leave1 (cs := [.pointer (some ⟨w.heap.size, 0, none⟩)]) (by simp) hE _ (D_bad _ e _ hb) ?_
    rintro w' ⟨hb', hc'⟩
    have hq : retQ Tryz.prog [.cell 2 29] (fun v w' => ∃ w1, ((v = .int .i64 0 ∧ R w1) ∨ ∃ e, v = .int .i64 e ∧ K e w1) ∧ Chg [w.heap.size] w1 w') .ret _ [] w' :=
      retQ1c (F := fun i => t.getD i undef) (hs 2) Tryz.underlying29 rfl hb' ⟨w1, .inr ⟨e, rfl, hK⟩, hc'⟩
    unfold retQ at hq
    obtain ⟨_, vs, hv, hR'⟩ := hq
    exact ⟨_, run_results (rs := [.cell 2 29]) rfl (by decide) (⟨ht, rfl, fun _ => rfl⟩ : Fits _ _ [] ⟨t, []⟩) hv, hR'⟩
end Wire
namespace Wire
open Go Go.RowKit Sx
/-- A number off these bytes: i bytes of it are read, they told n. -/
def rdU (most : Nat) : Nat → Nat → List UInt8 → Option (Nat × List UInt8)
  | _, _, [] => none
  | i, n, x :: l =>
    if i = 9 ∧ 1 < x.toNat then none
    else if 128 ≤ x.toNat then rdU most (i + 1) (n + x.toNat % 128 * 2 ^ (7 * i)) l
    else if x.toNat = 0 ∧ 0 < i then none
    else if most < n + x.toNat % 128 * 2 ^ (7 * i) then none
    else some (n + x.toNat % 128 * 2 ^ (7 * i), l)
theorem and127 (x : Nat) (h : x < 256) : bits .and .u8 (x : Int) 127 = ((x % 128 : Nat) : Int) := by
  have key : ∀ b : Fin 256, b.val &&& 127 = b.val % 128 := by decide
  have h1 : x &&& 127 = x % 128 := key ⟨x, h⟩
  have e := u8_and_nat x 127 (by omega) (by omega)
  have e2 : bits .and .u8 (x : Int) 127 = ((x &&& 127 : Nat) : Int) := e
  rw [e2, h1]
theorem or_add (n m k : Nat) (hn : n < 2 ^ k) (h : n + m * 2 ^ k < 18446744073709551616) : bits .or .u64 (n : Int) ((m * 2 ^ k : Nat) : Int) = ((n + m * 2 ^ k : Nat) : Int) := by
  have h1 : n < 18446744073709551616 := by omega
  have h2 : m * 2 ^ k < 18446744073709551616 := by omega
  generalize hq : m * 2 ^ k = q at *
  have e1 : (BitVec.ofInt 64 (n : Int)).toNat = n := by
    rw [BitVec.toNat_ofInt]; omega
  have e2 : (BitVec.ofInt 64 (q : Int)).toNat = q := by
    rw [BitVec.toNat_ofInt]; omega
  show IntKind.u64.wrap ((BitVec.ofInt 64 (n : Int) ||| BitVec.ofInt 64 (q : Int)).toNat : Int) = _
  rw [BitVec.toNat_or, e1, e2]
  have h3 : n ||| q = n + q := by
    have := Nat.two_pow_add_eq_or_of_lt hn m
    rw [Nat.mul_comm] at hq
    rw [hq] at this
    rw [Nat.or_comm, ← this, Nat.add_comm]
  rw [h3]
  exact wu64 (by omega) (by omega)
theorem acc_lt {i n x : Nat} (hn : n < 2 ^ (7 * i)) : n + x % 128 * 2 ^ (7 * i) < 2 ^ (7 * (i + 1)) := by
  have h : x % 128 ≤ 127 := by omega
  have h2 := Nat.mul_le_mul_right (2 ^ (7 * i)) h
  have h3 : 2 ^ (7 * (i + 1)) = 128 * 2 ^ (7 * i) := by rw [Nat.mul_succ, Nat.pow_add, Nat.mul_comm]
  omega
theorem acc_64 {i n x : Nat} (hi : i ≤ 9) (hx : i = 9 → x ≤ 1) (hn : n < 2 ^ (7 * i)) : n + x % 128 * 2 ^ (7 * i) < 18446744073709551616 := by
  have h := acc_lt (x := x) hn
  rcases Nat.lt_or_ge i 9 with h9 | h9
  · have : 2 ^ (7 * (i + 1)) ≤ 2 ^ 63 := Nat.pow_le_pow_right (by omega) (by omega)
    omega
  · obtain rfl : i = 9 := by omega
    have := hx rfl
    have h63 : (2 : Nat) ^ (7 * 9) = 9223372036854775808 := by decide
    rw [h63] at hn ⊢
    have : x % 128 ≤ 1 := by omega
    have h2 := Nat.mul_le_mul_right 9223372036854775808 this
    omega
theorem shl_at {i x : Nat} (h : x % 128 * 2 ^ (7 * i) < 18446744073709551616) (hi : i ≤ 9) : IntKind.u64.wrap (((x % 128 : Nat) : Int) * 2 ^ (min (((7 : Int) * (i : Int)).toNat) IntKind.u64.bits)) = ((x % 128 * 2 ^ (7 * i) : Nat) : Int) := by
  have e : min (((7 : Int) * (i : Int)).toNat) IntKind.u64.bits = 7 * i := by
    have : IntKind.u64.bits = 64 := rfl
    rw [this]
    omega
  rw [e]
  have e2 : ((x % 128 : Nat) : Int) * 2 ^ (7 * i) = ((x % 128 * 2 ^ (7 * i) : Nat) : Int) := by
    rw [Int.natCast_mul, Int.natCast_pow]
    rfl
  rw [e2]
  exact wu64 (by omega) (by omega)
theorem rndQ_f {α : Type} {vals : α → St} {I : α → World → Prop} {μ : α → World → Nat} {m : Nat} {Q : Post} {ds ds' : List Deferred} {F : Fr} {w : World} {c : List PanicEntry} (h : Q (.panic c) F ds w) : rndQ vals I μ m Q ds' (.panic c) F ds w := h
attribute [local irreducible] W Lst Qst Pu seqQ blkQ rndQ cutQ retQ Does Enters IntKind.wrap bits sb World.alloc World.putObj Blk
end Wire
namespace Wire
open Go Go.RowKit Sx
theorem N8.int {w : World} {b : Nat} {k : IntKind} {z : Int} {e : TypeId} (h : Blk w b [.int k z] e) (hk : k ≠ .u8) : N8 w b := fun off z' => by
  rw [h.cell off]
  rcases off with _ | off
  · intro e
    simp only [List.getElem?_cons_zero, Option.some.injEq, Value.int.injEq] at e
    exact hk e.1
  · simp
attribute [local irreducible] W Lst Qst Pu seqQ blkQ rndQ cutQ retQ Does Enters IntKind.wrap bits sb World.alloc World.putObj Blk
theorem c_BadB (b : Nat) (a : Option Addr) (m c : Nat) (e e' : Int) (w : World) (hb : Blk w b [.slice a m c, .int .i64 e] 161) : Does Tryz.prog 128 #[.pointer (some ⟨b, 0, none⟩), .int .i64 e'] w fun v w' => v = .tuple #[] ∧ Blk w' b [.slice a m c, .int .i64 (if e = 0 then e' else e)] 161 ∧ Chg [b] w w' := by
  refine Does_of (args := [.pointer (some ⟨b, 0, none⟩), .int .i64 e']) Tryz.func128 (by kernel_rfl) rfl rfl rfl rfl rfl ?_
  by_cases he : e = 0
  · rw [if_pos he]
    (refine Ga ?_)
    have hch : Chg [b] w (w.putObj b (.cells [.slice a m c, .int .i64 e'].toArray 161)) := (Chg.refl _ _).put (by simp) _
    exact retQ0n ⟨rfl, Blk.put_same hb.lt _ _, hch⟩
  · rw [if_neg he]
    (refine Ga ?_)
    exact retQ0n ⟨rfl, hb, Chg.refl _ _⟩
theorem c_Bad (b : Nat) (l : List UInt8) (e e' : Int) (w : World) (h : RdAt w b l e) : Does Tryz.prog 128 #[.pointer (some ⟨b, 0, none⟩), .int .i64 e'] w fun v w' => v = .tuple #[] ∧ RdAt w' b l (if e = 0 then e' else e) ∧ Chg [b] w w' := by
  obtain ⟨a, c, hb, hi, hc⟩ := h
  refine (c_BadB b a l.length c e e' w hb).mono ?_
  rintro v w' ⟨rfl, hb', hc'⟩
  refine ⟨rfl, ⟨a, c, hb', Ints.chg hi hc' ?_, hc⟩, hc'⟩
  intro g hg
  obtain rfl : g = b := by simpa using hg
  exact N8.rd hb
/-- Guard: what fails within a function is a failure of the reader, whose bytes are then as they were. X: what blocks besides the reader's the function may turn. -/
theorem c_Guard (b m c : Nat) (a : Option Addr) (e : Int) (g : Nat) (caps : List Value) (X : List Nat) (w : World) (hb : Blk w b [.slice a m c, .int .i64 e] 161) (hX : w.heap.size ∉ X) (R : World → Prop) (K0 : Prop)
    (hst : ∀ w1 w2, R w1 → Chg [w.heap.size] w1 w2 → Blk w1 w.heap.size [.int .i64 0] 29 → R w2)
    (hg : e = 0 → Tries Tryz.prog g caps.toArray (w.alloc (.cells [.int .i64 0].toArray 29)) (fun _ w' => R w' ∧ Chg (b :: X) (w.alloc (.cells [.int .i64 0].toArray 29)) w')
      (fun v w' => K0 ∧ (∃ e : Int, v = badV e ∧ e ≠ 0) ∧ Chg [b] (w.alloc (.cells [.int .i64 0].toArray 29)) w' ∧ ∃ x c y, Blk w' b [.slice x c y, .int .i64 0] 161)) :
    Does Tryz.prog 119 #[.pointer (some ⟨b, 0, none⟩), .func (.func g) #[] caps.toArray] w fun v w' => Chg (b :: X) w w' ∧
      ((v = .bool true ∧ e = 0 ∧ R w') ∨ (v = .bool false ∧ (e = 0 → K0) ∧ Chg [b] w w' ∧ ∃ e', e' ≠ 0 ∧ Blk w' b [.slice a m c, .int .i64 e'] 161)) := by
  refine Does_of (args := [.pointer (some ⟨b, 0, none⟩), .func (.func g) #[] caps.toArray]) Tryz.func119 (by kernel_rfl) rfl rfl rfl rfl rfl ?_
  have hlt := hb.lt
  by_cases he : e = 0
  · subst he
    have hg := hg rfl
    (refine Ga ?_)
    have hbox : Blk (w.alloc (.cells [.int .i64 0].toArray 29)) w.heap.size [.int .i64 0] 29 := (by (repeat (first | assumption | (apply Blk.below (hb := hb1); rotate_left; (focus ((try simp only [Sx.sizes]); omega)); rotate_right) | (apply Blk.below (hb := hb2); rotate_left; (focus ((try simp only [Sx.sizes]); omega)); rotate_right) | (apply Blk.below (hb := hb3); rotate_left; (focus ((try simp only [Sx.sizes]); omega)); rotate_right) | (apply Blk.below (hb := hb4); rotate_left; (focus ((try simp only [Sx.sizes]); omega)); rotate_right) | (apply Blk.below (hb := hb5); rotate_left; (focus ((try simp only [Sx.sizes]); omega)); rotate_right) | (apply Blk.below (hb := hb6); rotate_left; (focus ((try simp only [Sx.sizes]); omega)); rotate_right) | (apply Blk.below (hb := hb7); rotate_left; (focus ((try simp only [Sx.sizes]); omega)); rotate_right) | (apply Blk.below (hb := hb8); rotate_left; (focus ((try simp only [Sx.sizes]); omega)); rotate_right) | (apply Blk.below (hb := hb9); rotate_left; (focus ((try simp only [Sx.sizes]); omega)); rotate_right) | exact Blk.newE (by first | rfl | ((try simp only [Sx.sizes]); first | done | omega)) _ _ | exact Blk.put_same (by (try simp only [Sx.sizes]); first | done | omega) _ _ | (apply Blk.put_ne; (focus omega)) | apply Blk.alloc | apply Blk.drew)); done)
    have hnb : w.heap.size ∉ b :: X := by
      intro h
      rcases List.mem_cons.1 h with h | h
      · omega
      · exact hX h
    have hout : ∀ {Y : List Nat} {w1 w2 : World}, Chg Y (w.alloc (.cells [.int .i64 0].toArray 29)) w1 → Chg [w.heap.size] w1 w2 → Chg Y w w2 := fun {Y w1 w2} h1 h2 => by
      have h0 : Chg Y w (w.alloc (.cells [.int .i64 0].toArray 29)) := (Chg.refl _ _).alloc _
      have h3 := h0.trans h1
      exact ⟨h2.os.trans h3.os, h2.tape.trans h3.tape, h2.output.trans h3.output, Nat.le_trans h3.size h2.size, fun q hq hn => (h2.block q (Nat.lt_of_lt_of_le hq h3.size) (by simp; omega)).trans (h3.block q hq hn)⟩
    (apply Lst_call; (focus rfl); (focus rfl))
    refine (c_Try g caps w (fun w1 => R w1 ∧ Chg (b :: X) (w.alloc (.cells [.int .i64 0].toArray 29)) w1 ∧ Blk w1 w.heap.size [.int .i64 0] 29) (fun e w1 => K0 ∧ e ≠ 0 ∧ Chg [b] (w.alloc (.cells [.int .i64 0].toArray 29)) w1 ∧ ∃ x c y, Blk w1 b [.slice x c y, .int .i64 0] 161) ?_).mono ?_
    · refine hg.mono ?_ ?_
      · rintro v w1 ⟨hR, hc⟩
        have := hc.blk hbox hnb
        exact ⟨⟨hR, hc, this⟩, this⟩
      · rintro v w1 ⟨hK, ⟨e, rfl, he⟩, hc, hB⟩
        exact ⟨e, rfl, ⟨hK, he, hc, hB⟩, hc.blk hbox (by simp; omega)⟩
    · rintro v w2 ⟨w1, h12, hc2⟩
      rcases h12 with ⟨rfl, hR, hc1, hb1⟩ | ⟨e, rfl, hK, he, hc1, x, c', y, hb1⟩
      · have hR2 := hst w1 w2 hR hc2 hb1
        have hcc := hout hc1 hc2
        (refine Ga ?_)
        (apply retQ1; (focus rfl))
        exact ⟨hcc, .inl ⟨rfl, rfl, hR2⟩⟩
      · have hcc := hout hc1 hc2
        have hb2 := hc2.blk hb1 (by simp; omega)
        have hlt2 := hb2.lt
        (refine Ga ?_)
        (apply Lst_call; (focus rfl); (focus rfl))
        refine (c_BadB b a m c 0 e _ (by exact (by (repeat (first | assumption | (apply Blk.below (hb := hb1); rotate_left; (focus ((try simp only [Sx.sizes]); omega)); rotate_right) | (apply Blk.below (hb := hb2); rotate_left; (focus ((try simp only [Sx.sizes]); omega)); rotate_right) | (apply Blk.below (hb := hb3); rotate_left; (focus ((try simp only [Sx.sizes]); omega)); rotate_right) | (apply Blk.below (hb := hb4); rotate_left; (focus ((try simp only [Sx.sizes]); omega)); rotate_right) | (apply Blk.below (hb := hb5); rotate_left; (focus ((try simp only [Sx.sizes]); omega)); rotate_right) | (apply Blk.below (hb := hb6); rotate_left; (focus ((try simp only [Sx.sizes]); omega)); rotate_right) | (apply Blk.below (hb := hb7); rotate_left; (focus ((try simp only [Sx.sizes]); omega)); rotate_right) | (apply Blk.below (hb := hb8); rotate_left; (focus ((try simp only [Sx.sizes]); omega)); rotate_right) | (apply Blk.below (hb := hb9); rotate_left; (focus ((try simp only [Sx.sizes]); omega)); rotate_right) | exact Blk.newE (by first | rfl | ((try simp only [Sx.sizes]); first | done | omega)) _ _ | exact Blk.put_same (by (try simp only [Sx.sizes]); first | done | omega) _ _ | (apply Blk.put_ne; (focus omega)) | apply Blk.alloc | apply Blk.drew)); done))).mono ?_
        rw [if_pos rfl]
        rintro v w3 ⟨rfl, hb3, hc3⟩
        have hcc3 : Chg [b] w w3 := (hcc.put (.inl (by simp)) _).trans hc3
        (refine Ga ?_)
        (apply retQ1; (focus rfl))
        exact ⟨hcc3.mono (by simp), .inr ⟨rfl, fun _ => hK, hcc3, e, he, hb3⟩⟩
  · (refine Ga ?_)
    (apply retQ1; (focus rfl))
    exact ⟨Chg.refl _ _, .inr ⟨rfl, fun h => absurd h he, Chg.refl _ _, e, he, hb⟩⟩
end Wire
namespace Wire
open Go Go.RowKit Sx
/-- A reader: what is left, or a failure. -/
def RS (w : World) (b : Nat) : Option (List UInt8) → Prop
  | some l => RdAt w b l 0
  | none => ∃ l e, e ≠ 0 ∧ RdAt w b l e
/-- Its Uint. -/
def mUint (most : Nat) (s : Option (List UInt8)) : Nat × Option (List UInt8) :=
  match s.bind (rdU most 0 0) with
  | some (n, l) => (n, some l)
  | none => (0, none)
def mByte : Option (List UInt8) → Nat × Option (List UInt8)
  | some (x :: l) => (x.toNat, some l)
  | _ => (0, none)
theorem RdAt.rs {w : World} {b : Nat} {l : List UInt8} {e : Int} (h : RdAt w b l e) : RS w b (if e = 0 then some l else none) := by
  by_cases he : e = 0
  · subst he
    exact h
  · rw [if_neg he]
    exact ⟨l, e, he, h⟩
theorem RS.rd {w : World} {b : Nat} {s : Option (List UInt8)} (h : RS w b s) : ∃ l e, RdAt w b l e ∧ s = if e = 0 then some l else none := by
  cases s with
  | some l => exact ⟨l, 0, h, rfl⟩
  | none =>
    obtain ⟨l, e, he, h⟩ := h
    exact ⟨l, e, h, (if_neg he).symm⟩
theorem Ints.chgb {w w' : World} {b m c : Nat} {a : Option Addr} {z : Int} {e : TypeId} {v : Value} {zs : List Int} (h : Ints w .u8 v zs) (hb : Blk w b [.slice a m c, .int .i64 z] e) (hc : Chg [b] w w') : Ints w' .u8 v zs := by
  refine Ints.chg h hc ?_
  intro g hg
  obtain rfl : g = b := by simpa using hg
  exact N8.rd hb
theorem Blk.inj {w : World} {b : Nat} {l k : List Value} {e f : TypeId} (h : Blk w b l e) (h' : Blk w b k f) : l = k := by
  have := h.symm.trans h'
  simp at this
  exact this.1
attribute [local irreducible] W Lst Qst Pu seqQ blkQ rndQ cutQ retQ Does Enters IntKind.wrap bits sb World.alloc World.putObj Blk
end Wire
namespace Wire
open Go Go.RowKit Sx
theorem Chg.over {b : Nat} {X : List Nat} {w W w' : World} (h1 : Chg [b] w W) (hX : ∀ x ∈ X, w.heap.size ≤ x) (h2 : Chg (b :: X) W w') : Chg [b] w w' :=
  ⟨h2.os.trans h1.os, h2.tape.trans h1.tape, h2.output.trans h1.output, Nat.le_trans h1.size h2.size, fun q hq hn => (h2.block q (Nat.lt_of_lt_of_le hq h1.size) (by
    intro hm
    rcases List.mem_cons.1 hm with hm | hm
    · exact hn (by simp [hm])
    · have := hX q hm
      omega)).trans (h1.block q hq hn)⟩
/-- The number that bytes tell, the greatest first. -/
def fold8 (l : List UInt8) (n : Nat) : Nat := l.foldl (fun n x => n % 72057594037927936 * 256 + x.toNat) n
def mFixed : Option (List UInt8) → Nat × Option (List UInt8)
  | some l => if 8 ≤ l.length then (fold8 (l.take 8) 0, some (l.drop 8)) else (0, none)
  | none => (0, none)
def mText (most : Nat) (s : Option (List UInt8)) : List UInt8 × Option (List UInt8) :=
  match s.bind (rdU most 0 0) with
  | some (n, l) => if n ≤ l.length then (l.take n, some (l.drop n)) else ([], none)
  | none => ([], none)
theorem RdAt.cut {w : World} {b n m c : Nat} {a : Option Addr} {l : List UInt8} {z : Int} (hi : Ints w .u8 (.slice a m c) (nums l)) (hm : m = l.length) (hc : m ≤ c) (hn : n ≤ m) (hx : l ≠ [] → ∀ x, a = some x → x.block < b) (hb : Blk w b [sliced a n m c 1, .int .i64 z] 161) : RdAt w b (l.drop n) z := by
  subst hm
  have hsub := Ints.sub hi hc hn (Nat.le_refl l.length)
  rw [show ((nums l).take l.length).drop n = nums (l.drop n) by rw [nums_take, List.take_length, nums_drop]] at hsub
  unfold sliced at hb hsub
  rw [← List.length_drop] at hb hsub
  exact ⟨_, c - n, hb, hsub, by rw [List.length_drop]; omega, below_cut hx⟩
attribute [local irreducible] W Lst Qst Pu seqQ blkQ rndQ cutQ retQ Does Enters IntKind.wrap bits sb World.alloc World.putObj Blk
theorem c_takeB (b n m c : Nat) (a : Option Addr) (hn : n ≤ 281474976710656) (hmc : m ≤ c) (w : World) (hb : Blk w b [.slice a m c, .int .i64 0] 161) :
    Tries Tryz.prog 121 #[.pointer (some ⟨b, 0, none⟩), .int .i64 (n : Int)] w
      (fun v w' => n ≤ m ∧ v = .slice a n n ∧ Blk w' b [sliced a n m c 1, .int .i64 0] 161 ∧ Chg [b] w w')
      (fun v w' => m < n ∧ Bad w b v w') := by
  refine Tries_of (args := [.pointer (some ⟨b, 0, none⟩), .int .i64 (n : Int)]) Tryz.func121 (by kernel_rfl) rfl rfl rfl rfl rfl ?_
  by_cases hln : m < n
  · (refine Ga ?_)
    apply Lst_callF
    focus rfl
    focus rfl
    refine (c_Fail 10 (by decide) w).mono (fun v w' h => h.elim) ?_
    rintro v w' ⟨rfl, rfl⟩
    repeat (first | apply seqQ_f | apply blkQ_f)
    exact retF_p ⟨hln, ⟨_, rfl, by decide⟩, Chg.refl _ _, _, _, _, hb⟩
  · have hn2 : n ≤ m := by omega
    (refine Ga ?_)
    apply Lst_pu
    · apply P_lslice3
      focus rfl
      focus rfl
      focus rfl
      focus rfl
      focus rfl
      focus rfl
      focus omega
      focus omega
    focus rfl
    have hce := sliced3 a n
    (refine Ga ?_)
    apply retF_r
    (apply retQ1; (focus rfl))
    have hch : Chg [b] w (w.putObj b (.cells [sliced a n m c 1, .int .i64 0].toArray 161)) := (Chg.refl _ _).put (by simp) _
    exact ⟨hn2, hce, Blk.put_same hb.lt _ _, hch⟩
end Wire
namespace Wire
open Go Go.RowKit Sx
theorem rdU_le {most : Nat} : ∀ {l : List UInt8} {i n m : Nat} {l' : List UInt8}, rdU most i n l = some (m, l') → m ≤ most ∧ l'.length ≤ l.length
  | [], i, n, m, l', h => by simp [rdU] at h
  | x :: l, i, n, m, l', h => by
    rw [rdU] at h
    split at h
    · cases h
    split at h
    · have := rdU_le h
      exact ⟨this.1, Nat.le_succ_of_le this.2⟩
    split at h
    · cases h
    split at h
    · cases h
    · cases h
      exact ⟨by omega, Nat.le_succ _⟩
attribute [local irreducible] W Lst Qst Pu seqQ blkQ rndQ cutQ retQ Does Enters IntKind.wrap bits sb World.alloc World.putObj Blk
/-- NewReader: a reader of bytes. -/
theorem c_NewReader (v : Value) (l : List UInt8) (hl : l.length ≤ 100000000) (w : World) (h : Ints w .u8 v (nums l)) : Does Tryz.prog 101 #[v] w fun v w' => ∃ b, v = .pointer (some ⟨b, 0, none⟩) ∧ w.heap.size ≤ b ∧ RdAt w' b l 0 ∧ Below w.heap.size w w' := by
  refine Does_of (args := [v]) Tryz.func101 (by kernel_rfl) rfl rfl rfl rfl rfl ?_
  (refine Ga ?_)
  (apply Lst_call; (focus rfl); (focus rfl))
  refine (c_CloneC v l hl w h).mono ?_
  rintro v w1 ⟨⟨hi, hb1⟩, a, c, rfl, hc⟩
  have hs := hb1.size
  (refine Ga ?_)
  (apply retQ1; (focus rfl))
  refine ⟨w1.heap.size, rfl, hs, ⟨a, c, (by (repeat (first | assumption | (apply Blk.below (hb := hb1); rotate_left; (focus ((try simp only [Sx.sizes]); omega)); rotate_right) | (apply Blk.below (hb := hb2); rotate_left; (focus ((try simp only [Sx.sizes]); omega)); rotate_right) | (apply Blk.below (hb := hb3); rotate_left; (focus ((try simp only [Sx.sizes]); omega)); rotate_right) | (apply Blk.below (hb := hb4); rotate_left; (focus ((try simp only [Sx.sizes]); omega)); rotate_right) | (apply Blk.below (hb := hb5); rotate_left; (focus ((try simp only [Sx.sizes]); omega)); rotate_right) | (apply Blk.below (hb := hb6); rotate_left; (focus ((try simp only [Sx.sizes]); omega)); rotate_right) | (apply Blk.below (hb := hb7); rotate_left; (focus ((try simp only [Sx.sizes]); omega)); rotate_right) | (apply Blk.below (hb := hb8); rotate_left; (focus ((try simp only [Sx.sizes]); omega)); rotate_right) | (apply Blk.below (hb := hb9); rotate_left; (focus ((try simp only [Sx.sizes]); omega)); rotate_right) | exact Blk.newE (by first | rfl | ((try simp only [Sx.sizes]); first | done | omega)) _ _ | exact Blk.put_same (by (try simp only [Sx.sizes]); first | done | omega) _ _ | (apply Blk.put_ne; (focus omega)) | apply Blk.alloc | apply Blk.drew)); done), ?_, hc, fun hl x he => ?_⟩, Bel⟩
  rotate_left
  · obtain ⟨b', off, hb', hcell⟩ := Sx.Ints.at hi (j := 0) (by have := List.length_pos_iff.2 hl; omega)
    rw [he] at hb'
    cases hb'
    unfold World.cell? at hcell
    rcases Nat.lt_or_ge b' w1.heap.size with h | h
    · exact h
    · rw [Array.getElem?_eq_none h] at hcell
      cases hcell
  exact Ints.below hi ((Below.refl w1.heap.size w1).alloc (Nat.le_refl _) _) (Nat.le_refl _)
end Wire
namespace Wire
open Go Go.RowKit Sx
theorem rdU_uvarint (most : Nat) (more : List UInt8) : ∀ (m i n : Nat), i ≤ 9 → m * 2 ^ (7 * i) < 18446744073709551616 → n + m * 2 ^ (7 * i) ≤ most → (0 < i → 0 < m) → rdU most i n (Lib.uvarint m ++ more) = some (n + m * 2 ^ (7 * i), more) := by
  intro m
  induction m using Nat.strongRecOn with
  | ind m ih =>
  intro i n hi hm hmo h0
  have hmi : m ≤ m * 2 ^ (7 * i) := Nat.le_mul_of_pos_right _ (Nat.two_pow_pos _)
  have h9 : i = 9 → m ≤ 1 := by
    rintro rfl
    rw [show (2 : Nat) ^ (7 * 9) = 9223372036854775808 by decide] at hm
    omega
  by_cases hb : m < 128
  · rw [Lib.uvarint_small hb, List.cons_append, List.nil_append, rdU]
    have e : m.toUInt8.toNat = m := by simp; omega
    have e2 : m % 128 = m := by omega
    rw [e, e2, if_neg (by omega), if_neg (by omega), if_neg (by omega), if_neg (by omega)]
  · rw [Lib.uvarint_big (by omega), List.cons_append, rdU]
    have e : (m % 128 + 128).toUInt8.toNat = m % 128 + 128 := by simp; omega
    rw [e, if_neg (by omega), if_pos (by omega)]
    have hp : 2 ^ (7 * (i + 1)) = 128 * 2 ^ (7 * i) := by rw [Nat.mul_succ, Nat.pow_add, Nat.mul_comm]
    have hq : m / 128 * 2 ^ (7 * (i + 1)) + m % 128 * 2 ^ (7 * i) = m * 2 ^ (7 * i) := by
      rw [hp, ← Nat.mul_assoc, ← Nat.add_mul]
      congr 1
      omega
    have e3 : (m % 128 + 128) % 128 = m % 128 := by omega
    rw [e3]
    have := ih (m / 128) (by omega) (i + 1) (n + m % 128 * 2 ^ (7 * i)) (by omega) (by omega) (by omega) (fun _ => by omega)
    rw [this]
    congr 2
    omega
theorem mUint_uvarint (most m : Nat) (more : List UInt8) (h : m ≤ most) (hm : m < 18446744073709551616) : mUint most (some (Lib.uvarint m ++ more)) = (m, some more) := by
  have := rdU_uvarint most more m 0 0 (by omega) (by simpa using hm) (by simpa using h) (by omega)
  unfold mUint
  show (match rdU most 0 0 (Lib.uvarint m ++ more) with | some (n, l) => (n, some l) | none => (0, none)) = _
  rw [this]
  simp
theorem mText_uvarint (most : Nat) (t more : List UInt8) (h : t.length ≤ most) (hm : t.length < 18446744073709551616) : mText most (some (Lib.uvarint t.length ++ t ++ more)) = (t, some more) := by
  have := rdU_uvarint most (t ++ more) t.length 0 0 (by omega) (by simpa using hm) (by simpa using h) (by omega)
  unfold mText
  rw [List.append_assoc]
  show (match rdU most 0 0 (Lib.uvarint t.length ++ (t ++ more)) with | some (n, l) => if n ≤ l.length then (l.take n, some (l.drop n)) else ([], none) | none => ([], none)) = _
  rw [this]
  simp
theorem fold8_fixN (n : Nat) (hn : n < 18446744073709551616) : ∀ k, k ≤ 8 → fold8 (fixN k n) (n / 256 ^ k) = n
  | 0, _ => by simp [fixN, fold8]
  | k + 1, hk => by
    have e1 : n / 256 ^ (k + 1) = n / 256 ^ k / 256 := by rw [Nat.pow_succ, Nat.div_div_eq_div_mul]
    have hle : n / 256 ^ k ≤ n := Nat.div_le_self _ _
    have e2 : (n / 256 ^ k % 256).toUInt8.toNat = n / 256 ^ k % 256 := by simp
    have ih := fold8_fixN n hn k (by omega)
    unfold fixN fold8
    rw [List.foldl_cons, e1, e2]
    have e3 : n / 256 ^ k / 256 % 72057594037927936 * 256 + n / 256 ^ k % 256 = n / 256 ^ k := by
      clear ih e1 e2
      generalize n / 256 ^ k = q at *
      omega
    rw [e3]
    exact ih
theorem fixN_take (k n : Nat) (more : List UInt8) : (fixN k n ++ more).take k = fixN k n ∧ (fixN k n ++ more).drop k = more := by
  have := fixN_length k n
  constructor
  · rw [List.take_append_of_le_length (by omega), List.take_of_length_le (by omega)]
  · rw [List.drop_append_of_le_length (by omega), List.drop_of_length_le (by omega)]
    rfl
theorem mFixed_fixN (n : Nat) (hn : n < 18446744073709551616) (more : List UInt8) : mFixed (some (fixN 8 n ++ more)) = (n, some more) := by
  have h := fixN_take 8 n more
  have hl := fixN_length 8 n
  have h8 := fold8_fixN n hn 8 (by omega)
  have h0 : n / 256 ^ 8 = 0 := by omega
  rw [h0] at h8
  unfold mFixed
  show (if 8 ≤ (fixN 8 n ++ more).length then (fold8 ((fixN 8 n ++ more).take 8) 0, some ((fixN 8 n ++ more).drop 8)) else (0, none)) = _
  rw [if_pos (by rw [List.length_append]; omega), h.1, h.2, h8]
/-- Int's number. -/
def unzig (n : Nat) : Int := if n % 2 = 0 then ((n / 2 : Nat) : Int) else -((n / 2 : Nat) : Int) - 1
def mInt (s : Option (List UInt8)) : Int × Option (List UInt8) := (unzig (mUint 18446744073709551615 s).1, (mUint 18446744073709551615 s).2)
theorem unzig_zigzag (x : Int) : unzig (Lib.zigzag x) = x := by
  unfold unzig Lib.zigzag
  split <;> split <;> omega
end Wire
namespace Wire
open Go Go.RowKit Sx
theorem or_byte (n x : Nat) (hx : x < 256) : bits .or .u64 ((n % 72057594037927936 * 256 : Nat) : Int) (x : Int) = ((n % 72057594037927936 * 256 + x : Nat) : Int) := by
  have h : n % 72057594037927936 < 72057594037927936 := Nat.mod_lt _ (by omega)
  generalize n % 72057594037927936 = m at *
  have e1 : (BitVec.ofInt 64 ((m * 256 : Nat) : Int)).toNat = m * 256 := by
    rw [BitVec.toNat_ofInt]; omega
  have e2 : (BitVec.ofInt 64 (x : Int)).toNat = x := by
    rw [BitVec.toNat_ofInt]; omega
  show IntKind.u64.wrap ((BitVec.ofInt 64 ((m * 256 : Nat) : Int) ||| BitVec.ofInt 64 (x : Int)).toNat : Int) = _
  rw [BitVec.toNat_or, e1, e2]
  have h3 : m * 256 ||| x = m * 256 + x := by
    have := Nat.two_pow_add_eq_or_of_lt (i := 8) (b := x) (by omega) m
    rw [show 2 ^ 8 = 256 from rfl, Nat.mul_comm] at this
    exact this.symm
  rw [h3]
  exact wu64 (by omega) (by omega)
theorem shl_byte (n : Nat) : IntKind.u64.wrap ((n : Int) * 2 ^ 8) = ((n % 72057594037927936 * 256 : Nat) : Int) := by
  have e : IntKind.u64.wrap ((n : Int) * 2 ^ 8) = ((n : Int) * 256) % 18446744073709551616 := by
    unfold IntKind.wrap
    simp [IntKind.bits, IntKind.signed]
  rw [e]
  omega
theorem xor_i64 (x : Nat) (h : x < 9223372036854775808) : bits .xor .i64 (x : Int) 0 = (x : Int) ∧ bits .xor .i64 (x : Int) (-1) = -(x : Int) - 1 := by
  have e1 : (BitVec.ofInt 64 (x : Int)).toNat = x := by
    rw [BitVec.toNat_ofInt]; omega
  constructor
  · show IntKind.i64.wrap ((BitVec.ofInt 64 (x : Int) ^^^ BitVec.ofInt 64 0).toNat : Int) = _
    rw [show BitVec.ofInt 64 0 = 0#64 by decide, BitVec.xor_zero, e1]
    exact wi64 (by omega) (by omega)
  · show IntKind.i64.wrap ((BitVec.ofInt 64 (x : Int) ^^^ BitVec.ofInt 64 (-1)).toNat : Int) = _
    rw [show BitVec.ofInt 64 (-1) = BitVec.allOnes 64 by decide, BitVec.xor_allOnes, BitVec.toNat_not, e1]
    simp [IntKind.wrap, IntKind.signed, IntKind.bits]
    omega
theorem and_1 (n : Nat) (h : n < 18446744073709551616) : bits .and .u64 (n : Int) 1 = ((n % 2 : Nat) : Int) := by
  have e1 : (BitVec.ofInt 64 (n : Int)).toNat = n := by
    rw [BitVec.toNat_ofInt]; omega
  have e2 : (BitVec.ofInt 64 1).toNat = 2 ^ 1 - 1 := by decide
  show IntKind.u64.wrap ((BitVec.ofInt 64 (n : Int) &&& BitVec.ofInt 64 1).toNat : Int) = _
  rw [BitVec.toNat_and, e1, e2, Nat.and_two_pow_sub_one_eq_mod]
  exact wu64 (by omega) (by omega)
attribute [local irreducible] W Lst Qst Pu seqQ blkQ rndQ cutQ retQ Does Enters IntKind.wrap bits sb World.alloc World.putObj Blk
theorem c_FixedF (b ra rn : Nat) (l : List UInt8) (w : World) (hra : Blk w ra [.pointer (some ⟨b, 0, none⟩)] 143) (hrn : Blk w rn [.int .u64 0] 50) (h : RdAt w b l 0) :
    Tries Tryz.prog 120 #[.pointer (some ⟨ra, 0, none⟩), .pointer (some ⟨rn, 0, none⟩)] w
      (fun _ w' => (8 ≤ l.length ∧ Blk w' rn [.int .u64 (fold8 (l.take 8) 0 : Int)] 50 ∧ RdAt w' b (l.drop 8) 0) ∧ Chg [b, rn] w w')
      (fun v w' => l.length < 8 ∧ (∃ e : Int, v = badV e ∧ e ≠ 0) ∧ Chg [b] w w' ∧ ∃ x c y, Blk w' b [.slice x c y, .int .i64 0] 161) := by
  refine Tries_of (args := [.pointer (some ⟨ra, 0, none⟩), .pointer (some ⟨rn, 0, none⟩)]) Tryz.func120 (by kernel_rfl) rfl rfl rfl rfl rfl ?_
  have hne : rn ≠ b := by
    rintro rfl
    obtain ⟨a, c, hb, _, _⟩ := h
    have := Blk.inj hb hrn
    simp at this
  (refine Ga ?_)
  apply Lst_callF
  focus rfl
  focus rfl
  refine (c_take b 8 l (by omega) w h).mono ?_ ?_
  · rintro v w1 ⟨h8, ⟨a, rfl, hi⟩, hrd, hc⟩
    have hrn1 := hc.blk hrn (by simpa using hne)
    have hlt := hrn1.lt
    generalize l.drop 8 = l' at hrd ⊢
    have hlen : (l.take 8).length = 8 := by simp; omega
    generalize l.take 8 = k at *
    clear hra hrn h
    (refine Ga ?_)
    have e0 : fold8 (k.take 0) 0 = 0 := rfl
    refine W_loop (α := Nat) (fun x => [(1, .pointer (some ⟨rn, 0, none⟩)), (5, .slice a 8 8), (6, .int .i64 8), (7, .int .i64 (x : Int))])
      (fun x A => x ≤ 8 ∧ Ints A .u8 (.slice a 8 8) (nums k) ∧ Blk A rn [.int .u64 (fold8 (k.take x) 0 : Int)] 50 ∧ RdAt A b l' 0 ∧ Chg [b, rn] w A) (fun x _ => 8 - x) 0
      ⟨Nat.zero_le _, hi, by rw [e0]; exact hrn1, hrd, hc.mono (by simp)⟩ ⟨rfl, rfl, rfl, rfl, trivial⟩ ?_
    clear hi hrn1 hrd hc hlt
    rintro J x A ⟨hx, hi, hrn, hrd, hc⟩
    have hlt := hrn.lt
    by_cases hx8 : x = 8
    · subst hx8
      (refine Ga ?_)
      apply retF_n
      rw [show k.take 8 = k from List.take_of_length_le (by omega)] at hrn
      exact retQ0n ⟨⟨h8, hrn, hrd⟩, hc⟩
    · obtain ⟨g, off, hg, hcell⟩ := Sx.Ints.at hi (j := x) (by omega)
      subst hg
      have hy : (nums k).getD x 0 = ((k[x]'(by omega)).toNat : Int) := by
        unfold nums
        rw [List.getD_eq_getElem?_getD, List.getElem?_map, List.getElem?_eq_getElem (by omega)]
        rfl
      rw [hy] at hcell
      have hf : fold8 (k.take (x + 1)) 0 = fold8 (k.take x) 0 % 72057594037927936 * 256 + (k[x]'(by omega)).toNat := by
        rw [List.take_succ_eq_append_getElem (by omega)]
        unfold fold8
        rw [List.foldl_append]
        rfl
      have hx256 := UInt8.toNat_lt (k[x]'(by omega))
      generalize (k[x]'(by omega)).toNat = y at *
      generalize fold8 (k.take x) 0 = n at *
      have hsh := shl_byte n
      have hor := or_byte n y hx256
      have hwy : IntKind.u64.wrap (y : Int) = (y : Int) := wu64 (by omega) (by omega)
      (refine Ga ?_)
      have hc3 : Chg [rn] A (A.putObj rn (.cells [.int .u64 ((n % 72057594037927936 * 256 + y : Nat) : Int)].toArray 50)) := (Chg.refl _ _).put (by simp) _
      have h83 : ∀ g ∈ [rn], N8 A g := by
        intro g hg
        obtain rfl : g = rn := by simpa using hg
        exact N8.int hrn (by decide)
      refine rndQ_n (α := Nat) (x + 1) ⟨by omega, Ints.chg hi hc3 h83, by rw [hf]; exact Blk.put_same hlt _ _, hrd.chg hc3 (by simpa using hne.symm) h83, hc.put (by simp) _⟩ ⟨rfl, rfl, rfl, ?_, trivial⟩ (by omega)
      show Value.int .i64 ((x : Int) + 1) = Value.int .i64 ((x + 1 : Nat) : Int)
      rw [Int.natCast_add]
      rfl
  · rintro v w1 ⟨hr, he, hc, hB⟩
    repeat (first | apply seqQ_f | apply blkQ_f)
    exact retF_p ⟨hr, he, hc, hB⟩
theorem c_RFixed (b : Nat) (s : Option (List UInt8)) (w : World) (h : RS w b s) : Does Tryz.prog 102 #[.pointer (some ⟨b, 0, none⟩)] w fun v w' => v = .int .u64 ((mFixed s).1 : Int) ∧ RS w' b (mFixed s).2 ∧ Chg [b] w w' := by
  refine Does_of (args := [.pointer (some ⟨b, 0, none⟩)]) Tryz.func102 (by kernel_rfl) rfl rfl rfl rfl rfl ?_
  obtain ⟨l, e, hrd, rfl⟩ := h.rd
  obtain ⟨a, c, hb, hi, hc⟩ := id hrd
  have hlt := hb.lt
  (refine Ga ?_)
  have hst1 : ((w.alloc (.cells [.pointer (some ⟨b, 0, none⟩)].toArray 143)).alloc (.cells [.int .u64 0].toArray 50)).heap.size = w.heap.size + 2 := by simp only [Sx.sizes]
  have hch : Chg [b] w ((w.alloc (.cells [.pointer (some ⟨b, 0, none⟩)].toArray 143)).alloc (.cells [.int .u64 0].toArray 50)) := ((Chg.refl _ _).alloc _).alloc _
  have hra : Blk ((w.alloc (.cells [.pointer (some ⟨b, 0, none⟩)].toArray 143)).alloc (.cells [.int .u64 0].toArray 50)) w.heap.size [.pointer (some ⟨b, 0, none⟩)] 143 := (by (repeat (first | assumption | (apply Blk.below (hb := hb1); rotate_left; (focus ((try simp only [Sx.sizes]); omega)); rotate_right) | (apply Blk.below (hb := hb2); rotate_left; (focus ((try simp only [Sx.sizes]); omega)); rotate_right) | (apply Blk.below (hb := hb3); rotate_left; (focus ((try simp only [Sx.sizes]); omega)); rotate_right) | (apply Blk.below (hb := hb4); rotate_left; (focus ((try simp only [Sx.sizes]); omega)); rotate_right) | (apply Blk.below (hb := hb5); rotate_left; (focus ((try simp only [Sx.sizes]); omega)); rotate_right) | (apply Blk.below (hb := hb6); rotate_left; (focus ((try simp only [Sx.sizes]); omega)); rotate_right) | (apply Blk.below (hb := hb7); rotate_left; (focus ((try simp only [Sx.sizes]); omega)); rotate_right) | (apply Blk.below (hb := hb8); rotate_left; (focus ((try simp only [Sx.sizes]); omega)); rotate_right) | (apply Blk.below (hb := hb9); rotate_left; (focus ((try simp only [Sx.sizes]); omega)); rotate_right) | exact Blk.newE (by first | rfl | ((try simp only [Sx.sizes]); first | done | omega)) _ _ | exact Blk.put_same (by (try simp only [Sx.sizes]); first | done | omega) _ _ | (apply Blk.put_ne; (focus omega)) | apply Blk.alloc | apply Blk.drew)); done)
  have hrn : Blk ((w.alloc (.cells [.pointer (some ⟨b, 0, none⟩)].toArray 143)).alloc (.cells [.int .u64 0].toArray 50)) (w.heap.size + 1) [.int .u64 0] 50 := (by (repeat (first | assumption | (apply Blk.below (hb := hb1); rotate_left; (focus ((try simp only [Sx.sizes]); omega)); rotate_right) | (apply Blk.below (hb := hb2); rotate_left; (focus ((try simp only [Sx.sizes]); omega)); rotate_right) | (apply Blk.below (hb := hb3); rotate_left; (focus ((try simp only [Sx.sizes]); omega)); rotate_right) | (apply Blk.below (hb := hb4); rotate_left; (focus ((try simp only [Sx.sizes]); omega)); rotate_right) | (apply Blk.below (hb := hb5); rotate_left; (focus ((try simp only [Sx.sizes]); omega)); rotate_right) | (apply Blk.below (hb := hb6); rotate_left; (focus ((try simp only [Sx.sizes]); omega)); rotate_right) | (apply Blk.below (hb := hb7); rotate_left; (focus ((try simp only [Sx.sizes]); omega)); rotate_right) | (apply Blk.below (hb := hb8); rotate_left; (focus ((try simp only [Sx.sizes]); omega)); rotate_right) | (apply Blk.below (hb := hb9); rotate_left; (focus ((try simp only [Sx.sizes]); omega)); rotate_right) | exact Blk.newE (by first | rfl | ((try simp only [Sx.sizes]); first | done | omega)) _ _ | exact Blk.put_same (by (try simp only [Sx.sizes]); first | done | omega) _ _ | (apply Blk.put_ne; (focus omega)) | apply Blk.alloc | apply Blk.drew)); done)
  have hb1 : Blk ((w.alloc (.cells [.pointer (some ⟨b, 0, none⟩)].toArray 143)).alloc (.cells [.int .u64 0].toArray 50)) b [.slice a l.length c, .int .i64 e] 161 := (by (repeat (first | assumption | (apply Blk.below (hb := hb1); rotate_left; (focus ((try simp only [Sx.sizes]); omega)); rotate_right) | (apply Blk.below (hb := hb2); rotate_left; (focus ((try simp only [Sx.sizes]); omega)); rotate_right) | (apply Blk.below (hb := hb3); rotate_left; (focus ((try simp only [Sx.sizes]); omega)); rotate_right) | (apply Blk.below (hb := hb4); rotate_left; (focus ((try simp only [Sx.sizes]); omega)); rotate_right) | (apply Blk.below (hb := hb5); rotate_left; (focus ((try simp only [Sx.sizes]); omega)); rotate_right) | (apply Blk.below (hb := hb6); rotate_left; (focus ((try simp only [Sx.sizes]); omega)); rotate_right) | (apply Blk.below (hb := hb7); rotate_left; (focus ((try simp only [Sx.sizes]); omega)); rotate_right) | (apply Blk.below (hb := hb8); rotate_left; (focus ((try simp only [Sx.sizes]); omega)); rotate_right) | (apply Blk.below (hb := hb9); rotate_left; (focus ((try simp only [Sx.sizes]); omega)); rotate_right) | exact Blk.newE (by first | rfl | ((try simp only [Sx.sizes]); first | done | omega)) _ _ | exact Blk.put_same (by (try simp only [Sx.sizes]); first | done | omega) _ _ | (apply Blk.put_ne; (focus omega)) | apply Blk.alloc | apply Blk.drew)); done)
  generalize ((w.alloc (.cells [.pointer (some ⟨b, 0, none⟩)].toArray 143)).alloc (.cells [.int .u64 0].toArray 50)) = W at *
  have hrd1 : RdAt W b l e := ⟨a, c, hb1, Ints.chgb hi hb hch, hc⟩
  (apply Lst_call; (focus rfl); (focus rfl))
  refine (c_Guard b l.length c a e 120 [.pointer (some ⟨w.heap.size, 0, none⟩), .pointer (some ⟨w.heap.size + 1, 0, none⟩)] [w.heap.size + 1] W hb1 (by simp; omega)
    (fun w' => 8 ≤ l.length ∧ Blk w' (w.heap.size + 1) [.int .u64 (fold8 (l.take 8) 0 : Int)] 50 ∧ RdAt w' b (l.drop 8) 0) (l.length < 8) ?_ ?_).mono ?_
  · rintro w1 w2 ⟨h8, hB, hR⟩ hc he
    refine ⟨h8, hc.blk hB (by simp; omega), hR.chg hc (by simp; omega) ?_⟩
    intro g hg
    obtain rfl : g = W.heap.size := by simpa using hg
    exact N8.int he (by decide)
  · rintro rfl
    have hbel : Below W.heap.size W (W.alloc (.cells [.int .i64 0].toArray 29)) := (Below.refl _ _).alloc (Nat.le_refl _) _
    exact c_FixedF b w.heap.size (w.heap.size + 1) l _ (hra.below hbel hra.lt) (hrn.below hbel hrn.lt) (hrd1.below hbel (Nat.le_refl _))
  · rintro v w' ⟨hc2, hor⟩
    have hcc : Chg [b] w w' := Chg.over hch (by simp) hc2
    rcases hor with ⟨rfl, rfl, h8, hB, hR⟩ | ⟨rfl, hK, hc3, e', he', hB⟩
    · have hm : mFixed (if (0 : Int) = 0 then some l else none) = (fold8 (l.take 8) 0, some (l.drop 8)) := if_pos h8
      rw [hm]
      (refine Ga ?_)
      (apply retQ1; (focus rfl))
      exact ⟨rfl, hR, hcc⟩
    · have hrn3 := hc3.blk hrn (by simp; omega)
      have hm : mFixed (if e = 0 then some l else none) = (0, none) := by
        by_cases he : e = 0
        · rw [if_pos he]
          exact if_neg (by have := hK he; omega)
        · rw [if_neg he]
          rfl
      rw [hm]
      (refine Ga ?_)
      (apply retQ1; (focus rfl))
      exact ⟨rfl, ⟨l, e', he', a, c, hB, Ints.chgb hi hb hcc, hc⟩, hcc⟩
end Wire
end Go.Proofs.YtfocnbmihcnaoaaGreatDoor
