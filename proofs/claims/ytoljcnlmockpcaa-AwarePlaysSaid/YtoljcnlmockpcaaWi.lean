/- wire.Writer. -/
import Derived.Test.YtoljcnlmockpcaaProg
import Derived.Test.YtoljcnlmockpcaaSxGo
import Derived.Lib.AppendStr
import Derived.Lib.Varint
import Derived.Laws.BytesArg
namespace Go.Proofs.Ytoljcnlmockpcaa
set_option maxRecDepth 100000
namespace Wire
open Go Go.RowKit Sx
/-- A byte as a cell. -/
def bc (x : UInt8) : Value := .int .u8 (x.toNat : Int)
/-- Whatever lies below B stays, but for the block b. -/
structure Off (b B : Nat) (w w' : World) : Prop where
  os : w'.os = w.os
  tape : w'.tape = w.tape
  output : w'.output = w.output
  size : w.heap.size ≤ w'.heap.size
  block : ∀ g, g < B → g ≠ b → w'.heap[g]? = w.heap[g]?
  typed : ∀ K pl T, K ≠ b → T ≠ 5 → Blk w K pl T → Blk w' K pl T
theorem Off.refl (b B : Nat) (w : World) : Off b B w w := ⟨rfl, rfl, rfl, Nat.le_refl _, fun _ _ _ => rfl, fun _ _ _ _ _ h => h⟩
theorem Off.trans {b B : Nat} {x y z : World} (h : Off b B x y) (k : Off b B y z) : Off b B x z :=
  ⟨k.os.trans h.os, k.tape.trans h.tape, k.output.trans h.output, Nat.le_trans h.size k.size, fun g h1 h2 => (k.block g h1 h2).trans (h.block g h1 h2), fun K pl T h1 h2 h3 => k.typed K pl T h1 h2 (h.typed K pl T h1 h2 h3)⟩
theorem Off.below {b B N : Nat} {w w' : World} (h : Off b B w w') (hb : N ≤ b) (hB : N ≤ B) : Below N w w' :=
  ⟨h.os, h.tape, h.output, h.size, fun k hk => h.block k (by omega) (by omega)⟩
theorem own_typed {w : World} {B b nn T : Nat} {v : Value} {xs l : List Value} (h : w.ownsRow B 5 1 v nn xs) (hT : T ≠ 5) (hb : Blk w b l T) : v.ownBlock ≠ some b := by
  intro he
  obtain ⟨_, ⟨rfl, _⟩ | ⟨g, cap, cur, rfl, _, hg, _⟩⟩ := h
  · simp [Value.ownBlock] at he
  · simp only [Value.ownBlock, Option.some.injEq] at he
    subst he
    unfold Blk at hb
    rw [hb] at hg
    simp at hg
    exact hT hg.2
theorem Off.grown {b B : Nat} {w w' : World} {nn : Nat} {v : Value} {xs : List Value} (hown : w.ownsRow B 5 1 v nn xs) (hg : w.grownBy w' v.ownBlock) (hB : B ≤ w.heap.size) : Off b B w w' :=
  ⟨hg.os, hg.tape, hg.output, hg.size, fun g h1 _ => hg.block g (by omega) (fun e => by have := own_ne hown h1 g e.symm; omega), fun _ _ _ _ h2 h3 => h3.grown hg (fun k hk e => own_typed hown h2 h3 (by rw [hk, e]))⟩
theorem Off.put {b B : Nat} {x w : World} (h : Off b B x w) (o : Obj) : Off b B x (w.putObj b o) :=
  ⟨h.os, h.tape, h.output, by rw [World.putObj_size]; exact h.size, fun g h1 h2 => (World.putObj_heap_other h2).trans (h.block g h1 h2), fun K pl T h1 h2 h3 => (World.putObj_heap_other h1).trans (h.typed K pl T h1 h2 h3)⟩
/-- A writer in a block of its own, that holds these bytes; its row lies from B on. -/
def WrAt (b B : Nat) (l : List UInt8) (w : World) : Prop := B ≤ w.heap.size ∧ ∃ sv, Blk w b [sv] 103 ∧ w.ownsRow B 5 1 sv l.length (l.map bc) ∧ sv.ownBlock ≠ some b
theorem own_off {w : World} {B b nn : Nat} {v : Value} {xs l : List Value} (h : w.ownsRow B 5 1 v nn xs) (hb : Blk w b l 103) : v.ownBlock ≠ some b := by
  intro he
  obtain ⟨_, ⟨rfl, _⟩ | ⟨g, cap, cur, rfl, _, hg, _⟩⟩ := h
  · simp [Value.ownBlock] at he
  · simp only [Value.ownBlock, Option.some.injEq] at he
    subst he
    unfold Blk at hb
    rw [hb] at hg
    simp at hg
theorem WrAt.new (w : World) (B : Nat) (hB : B ≤ w.heap.size) : WrAt w.heap.size B [] (w.alloc (.cells [.slice none 0 0].toArray 103)) :=
  ⟨by rw [World.size_alloc]; omega, .slice none 0 0, Blk.newE rfl _ _, World.ownsRow_nil _ _ _ _, by simp [Value.ownBlock]⟩
theorem own_put' {w : World} {B b nn : Nat} {v : Value} {xs : List Value} (h : w.ownsRow B 5 1 v nn xs) (hne : v.ownBlock ≠ some b) (o : Obj) : (w.putObj b o).ownsRow B 5 1 v nn xs :=
  h.kept (row := some b) ⟨rfl, rfl, rfl, by rw [World.putObj_size]; exact Nat.le_refl _, fun k _ hk => World.putObj_heap_other (fun e => hk (by rw [e]))⟩ (.inr hne)
section rules
variable {P : Program} {rd : Option Nat} {n : Nat} {ops : Array Oper} {Q : Post} {rest : List Oper} {F : Fr} {ds : List Deferred} {w : World} {ty : TypeId} {pos : String} {after : Array Edge}
/-- append(b, s...) of a string. -/
theorem Lst_sappend {d : Nat} {s x : Operand} {t u e base nn : Nat} {i : TypeInfo} {v : Value} {xs : List Value} {str : ByteArray} (hown : w.ownsRow base e 1 v nn xs) (hs : ev F s = v) (hx : ev F x = .string str) (ht : P.underlying t = some (.slice e)) (hu : P.underlying u = some .string) (hi : P.info? e = some i) (hz : i.zero = some (.int .u8 0))
    (hsize : i.size = 1) (hby : i.bytes = 1) (hd : Nat.blt d n = true) (hbytes : nn + str.size ≤ 140737488355328) (hbase : base ≤ w.heap.size)
    (h : ∀ v' w', w'.ownsRow base e 1 v' (nn + str.size) (xs ++ Lib.strCells str) → w.grownBy w' v.ownBlock → Lst P rd n ops Q rest (upd F d v') ds w') :
    Lst P rd n ops Q (⟨some d, .call { callee := .builtin .append, args := #[s, x], argTypes := #[t, u] }, ty, pos, after, none⟩ :: rest) F ds w := by
  obtain ⟨v', w', hrun, h2, h3, h4⟩ := Lib.run_append_own_string (P := P) (w := w) base t u ty e i ht hu hi hz hsize hby v nn xs hown str (by simp only [maxLen]; omega) hbytes hbase
  refine Lst_value (v := v') (w' := w') rfl ?_ hd (h v' w' h2 h3)
  simp [execOp, resolve, invoke, builtin, hs, hx, hrun]
end rules
theorem or128 (n : Nat) : bits .or .u8 ((n % 256 : Nat) : Int) 128 = ((n % 128 + 128 : Nat) : Int) := by
  have e1 : (BitVec.ofInt 8 ((n % 256 : Nat) : Int)).toNat = n % 256 := by
    rw [BitVec.toNat_ofInt]; omega
  have e2 : (BitVec.ofInt 8 128).toNat = 128 := by decide
  show IntKind.u8.wrap ((BitVec.ofInt 8 ((n % 256 : Nat) : Int) ||| BitVec.ofInt 8 128).toNat : Int) = _
  rw [BitVec.toNat_or, e1, e2]
  have h : ∀ k : Fin 256, (k.1 ||| 128) = k.1 % 128 + 128 := by decide
  have := h ⟨n % 256, Nat.mod_lt _ (by omega)⟩
  simp only at this
  rw [this]
  rw [show n % 256 % 128 = n % 128 by omega]
  exact wu8 (by omega) (by omega)
theorem bc_of (n : Nat) (h : n < 256) : bc n.toUInt8 = .int .u8 (n : Int) := by
  unfold bc
  rw [show n.toUInt8.toNat = n % 256 from UInt8.toNat_ofNat ..]
  rw [Nat.mod_eq_of_lt h]
attribute [local irreducible] W Lst Qst Pu seqQ blkQ rndQ cutQ retQ Does Enters IntKind.wrap bits sb World.alloc World.putObj Blk
theorem c_Byte (b B : Nat) (l : List UInt8) (c : UInt8) (w : World) (h : WrAt b B l w) (hlen : l.length + 1 ≤ 140737488355328) : Does Try.prog 56 #[.pointer (some ⟨b, 0, none⟩), bc c] w fun v w' => v = .tuple #[] ∧ WrAt b B (l ++ [c]) w' ∧ Off b B w w' := by
  refine Does_of (args := [.pointer (some ⟨b, 0, none⟩), bc c]) Try.func56 (by kernel_rfl) rfl rfl rfl rfl rfl ?_
  obtain ⟨hB, sv, hblk, hown, hne⟩ := h
  unfold bc
  (refine Ga ?_)
  apply Lst_push (hown := hown) (bytes := 1)
  ((focus constructor); (focus rfl); (focus rfl); (focus rfl); (focus rfl); (focus rfl); (focus rfl); (focus rfl); (focus rfl); (focus rfl); (focus rfl); (focus simp [Value.oneCell']); (focus rfl); (focus rfl); (focus rfl); (focus rfl); (focus omega); (focus omega); (focus omega))
  intro v' w2 ho' hg _
  have hblk2 := hblk.grown hg (fun k hk e => hne (by rw [hk, e]))
  have hne2 := own_off ho' hblk2
  have hoff : Off b B w w2 := Off.grown hown hg hB
  obtain ⟨v1, v2, v3, rfl⟩ := own_slice ho'
  (refine Ga ?_)
  apply retQ0n
  refine ⟨rfl, ⟨?_, _, Blk.put_same hblk2.lt _ _, ?_, hne2⟩, hoff.put _⟩
  · rw [World.putObj_size]
    exact Nat.le_trans hB hoff.size
  · rw [List.length_append, List.map_append]
    exact own_put' ho' hne2 _
theorem c_UintAt (b B : Nat) (l : List UInt8) (n : Nat) (hn : n < 18446744073709551616) (w : World) (h : WrAt b B l w) (hlen : l.length + 20 ≤ 140737488355328) : Does Try.prog 55 #[.pointer (some ⟨b, 0, none⟩), .int .u64 (n : Int)] w fun v w' => v = .tuple #[] ∧ WrAt b B (l ++ Lib.uvarint n) w' ∧ Off b B w w' := by
  refine Does_of (args := [.pointer (some ⟨b, 0, none⟩), .int .u64 (n : Int)]) Try.func55 (by kernel_rfl) rfl rfl rfl rfl rfl ?_
  (refine Ga ?_)
  refine W_loop (α := Nat × List UInt8) (fun x => [(0, .pointer (some ⟨b, 0, none⟩)), (1, .int .u64 (x.1 : Int))])
    (fun x A => x.1 < 18446744073709551616 ∧ x.2 ++ Lib.uvarint x.1 = l ++ Lib.uvarint n ∧ WrAt b B x.2 A ∧ Off b B w A) (fun x _ => x.1) (n, l) ⟨hn, rfl, h, Off.refl _ _ _⟩ ⟨rfl, rfl, trivial⟩ ?_
  clear h
  rintro J ⟨m, k⟩ A ⟨hm, hk, h, hoff⟩
  dsimp only at hm hk h ⊢
  have hlen2 : k.length + 1 ≤ l.length + 10 := by
    have e := congrArg List.length hk
    rw [List.length_append, List.length_append] at e
    have h1 := Lib.uvarint_length64 hn
    have h2 : 1 ≤ (Lib.uvarint m).length := by
      rw [Lib.uvarint]; split <;> simp
    omega
  obtain ⟨hB, sv, hblk, hown, hne⟩ := h
  by_cases hge : 128 ≤ m
  · have hw8 : IntKind.u8.wrap (m : Int) = ((m % 256 : Nat) : Int) := by
      simp [IntKind.wrap, IntKind.signed, IntKind.bits]
    have ho := or128 m
    (refine Ga ?_)
    apply Lst_push (hown := hown) (bytes := 1)
    ((focus constructor); (focus rfl); (focus rfl); (focus rfl); (focus rfl); (focus rfl); (focus rfl); (focus rfl); (focus rfl); (focus rfl); (focus rfl); (focus simp [Value.oneCell']); (focus rfl); (focus rfl); (focus rfl); (focus rfl); (focus omega); (focus omega); (focus omega))
    intro v' w2 ho' hg _
    have hblk2 := hblk.grown hg (fun k hk e => hne (by rw [hk, e]))
    have hne2 := own_off ho' hblk2
    have hoff2 : Off b B A w2 := Off.grown hown hg hB
    obtain ⟨v1, v2, v3, rfl⟩ := own_slice ho'
    (refine Ga ?_)
    refine rndQ_n (m / 128, k ++ [(m % 128 + 128).toUInt8]) ⟨?_, ?_, ⟨?_, _, Blk.put_same hblk2.lt _ _, ?_, hne2⟩, ?_⟩ ⟨rfl, ?_, trivial⟩ ?_
    · dsimp only; omega
    · dsimp only
      rw [← hk, Lib.uvarint_big hge, List.append_assoc]
      rfl
    · rw [World.putObj_size]
      exact Nat.le_trans hB hoff2.size
    · dsimp only
      rw [List.length_append, List.map_append]
      have := own_put' ho' hne2 (.cells [.slice v1 v2 v3].toArray 103)
      rw [List.map_singleton, bc_of _ (by omega)]
      exact this
    · exact (hoff.trans hoff2).put _
    · show Value.int .u64 _ = _
      congr 1
    · dsimp only
      omega
  · have hw8 : IntKind.u8.wrap (m : Int) = (m : Int) := wu8 (by omega) (by omega)
    (refine Ga ?_)
    apply Lst_push (hown := hown) (bytes := 1)
    ((focus constructor); (focus rfl); (focus rfl); (focus rfl); (focus rfl); (focus rfl); (focus rfl); (focus rfl); (focus rfl); (focus rfl); (focus rfl); (focus simp [Value.oneCell']); (focus rfl); (focus rfl); (focus rfl); (focus rfl); (focus omega); (focus omega); (focus omega))
    intro v' w2 ho' hg _
    have hblk2 := hblk.grown hg (fun k hk e => hne (by rw [hk, e]))
    have hne2 := own_off ho' hblk2
    have hoff2 : Off b B A w2 := Off.grown hown hg hB
    obtain ⟨v1, v2, v3, rfl⟩ := own_slice ho'
    (refine Ga ?_)
    apply retQ0n
    refine ⟨rfl, ⟨?_, _, Blk.put_same hblk2.lt _ _, ?_, hne2⟩, (hoff.trans hoff2).put _⟩
    · rw [World.putObj_size]
      exact Nat.le_trans hB hoff2.size
    · rw [← hk, Lib.uvarint_small (by omega), List.length_append, List.map_append]
      have := own_put' ho' hne2 (.cells [.slice v1 v2 v3].toArray 103)
      rw [List.map_singleton, bc_of _ (by omega)]
      exact this
end Wire
namespace Wire
open Go Go.RowKit Sx
theorem xor_all (x : Nat) (h : x < 18446744073709551616) : bits .xor .u64 (x : Int) 18446744073709551615 = ((18446744073709551615 - x : Nat) : Int) := by
  have e2 : BitVec.ofInt 64 18446744073709551615 = BitVec.allOnes 64 := by decide
  show IntKind.u64.wrap ((BitVec.ofInt 64 (x : Int) ^^^ BitVec.ofInt 64 18446744073709551615).toNat : Int) = _
  rw [e2, BitVec.xor_allOnes, BitVec.toNat_not]
  have e1 : (BitVec.ofInt 64 (x : Int)).toNat = x := by
    rw [BitVec.toNat_ofInt]; omega
  rw [e1, show 2 ^ 64 - 1 - x = 18446744073709551615 - x by omega]
  exact wu64 (by omega) (by omega)
theorem xor_none (x : Nat) (h : x < 18446744073709551616) : bits .xor .u64 (x : Int) 0 = (x : Int) := by
  show IntKind.u64.wrap ((BitVec.ofInt 64 (x : Int) ^^^ BitVec.ofInt 64 0).toNat : Int) = _
  rw [show BitVec.ofInt 64 0 = 0#64 by decide, BitVec.xor_zero]
  have e1 : (BitVec.ofInt 64 (x : Int)).toNat = x := by
    rw [BitVec.toNat_ofInt]; omega
  rw [e1]
  exact wu64 (by omega) (by omega)
theorem zz_lt {n : Int} (h0 : -9223372036854775808 ≤ n) (h1 : n < 9223372036854775808) : Lib.zigzag n < 18446744073709551616 := by
  unfold Lib.zigzag
  split <;> omega
/-- The last k bytes of a number, the greatest first. -/
def fixN : Nat → Nat → List UInt8
  | 0, _ => []
  | k + 1, n => (n / 256 ^ k % 256).toUInt8 :: fixN k n
theorem fixN_length : ∀ k n, (fixN k n).length = k
  | 0, _ => rfl
  | k + 1, n => by simp [fixN, fixN_length k]
section rules
variable {P : Program} {rd : Option Nat} {n : Nat} {ops : Array Oper} {Q : Post} {rest : List Oper} {F : Fr} {ds : List Deferred} {w : World} {ty : TypeId} {pos : String} {after : Array Edge}
/-- Bytes behind a slice. -/
def nums (l : List UInt8) : List Int := l.map fun x => (x.toNat : Int)
theorem nums_map (l : List UInt8) : (nums l).map (Value.int .u8) = l.map bc := by
  unfold nums bc
  rw [List.map_map]
  rfl
/-- string(b) of bytes that are only read. -/
theorem Lst_bytesI {d t t' e : Nat} {x : Operand} {v : Value} {l : List UInt8} (hx : ev F x = v) (hv : Ints w .u8 v (nums l)) (ht : P.underlying t = some (.slice e)) (he : P.underlying e = some (.int .u8)) (ht' : P.underlying t' = some .string) (hd : Nat.blt d n = true)
    (h : Lst P rd n ops Q rest (upd F d (.string ⟨l.toArray⟩)) ds w) : Lst P rd n ops Q (⟨some d, .convert t t' x, ty, pos, after, none⟩ :: rest) F ds w := by
  obtain ⟨b, off, cap, h1, h2, h3⟩ := hv
  rcases h1 with rfl | ⟨⟨a0, rfl⟩, hz⟩
  · refine Lst_bytes (l := l) hx (by simp [nums]) ht he ht' (fun j hj => ?_) hd h
    have := h3 j (by simp [nums]; exact hj)
    rw [this]
    simp [nums]
  · have hl : l = [] := by simpa [nums] using hz
    subst hl
    refine Lst_value (v := .string ⟨[].toArray⟩) (w' := w) rfl ?_ hd h
    cases a0 with
    | none =>
      have := run_convert_bytes_nil (P := P) (w := w) t e ht he 0 0 t' ht'
      simp [execOp, hx, this]
      rfl
    | some a0 =>
      have := run_convert_bytes_back (P := P) w t t' e a0 0 [] ht he ht' (fun j hj => absurd hj (Nat.not_lt_zero _))
      rw [List.length_nil] at this
      simp [execOp, hx, this]
/-- []T{}: none. -/
theorem Lst_none {d t e B : Nat} {i : TypeInfo} (ht : P.underlying t = some (.slice e)) (hi : P.info? e = some i) (hB : w.heap.size = B) (hd : Nat.blt d n = true)
    (h : Lst P rd n ops Q rest (upd F d (.slice (some ⟨B, 0, none⟩) 0 0)) ds (w.alloc (.cells #[] e))) : Lst P rd n ops Q (⟨some d, .buildSlice t 0 #[], ty, pos, after, none⟩ :: rest) F ds w :=
  Lst_value rfl (by
    subst hB
    have hsz : (sizeOf e).run P w = .ok i.size w := by simp [sizeOf, typeInfo, hi]
    have e0 : Array.map (fun _ => (default : Value)) (Array.range 0) = #[] := by simp
    simp [execOp, Instr.buildSlice, run_underlying ht, hsz, Instr.fill, newRow]
    exact congrArg (fun x => w.alloc (.cells x e)) e0) hd h
theorem guard_slice_nil {op : BinOp} {t : TypeId} {x y : Operand} {b : Option Addr} {m c : Nat} : (eqGuard op t x y (.slice b m c) (.slice none 0 0)).run P w = .ok () w := by
  cases op <;> simp [eqGuard, Sem.run_pure]
theorem run_slice_nil {t te : TypeId} (b : Option Addr) (m c : Nat) (w : World) (ht : P.underlying t = some (.slice te)) : (Op.equal t (.slice b m c) (.slice none 0 0)).run P w = .ok b.isNone w := by
  have h : ∀ d : Nat, (Op.equalIn (d + 1) t (.slice b m c) (.slice none 0 0)).run P w = .ok b.isNone w := fun d => by
    cases b <;> simp [Op.equalIn, run_underlying ht]
  simp [Op.equal, Op.maxDepth, h 9999]
theorem P_slice_nil {t t' te : TypeId} {x y : Operand} {b : Option Addr} {m c : Nat} {r : Bool} (hx : ev F x = .slice b m c) (hy : ev F y = .slice none 0 0) (ht : P.underlying t = some (.slice te)) (hr : b.isNone = r) : Pu P F (.binOp .eql t x y t') ty (.bool r) :=
  fun _ _ _ w => bin_run hx hy guard_slice_nil (by
    subst hr
    have := run_slice_nil b m c w ht
    simp only [binOp, Sem.run_bind, this]
    rfl)
end rules
theorem wrap_0 : IntKind.u64.wrap 0 = 0 := by decide
theorem wrap_m1 : IntKind.u64.wrap (-1) = 18446744073709551615 := by decide
theorem shr_nn {n : Int} (h0 : 0 ≤ n) (h1 : n < 9223372036854775808) : n.fdiv (2 ^ (min (63 : Int).toNat IntKind.i64.bits)) = 0 := by
  rw [show (2 : Int) ^ (min (63 : Int).toNat IntKind.i64.bits) = 9223372036854775808 by decide, Int.fdiv_eq_ediv_of_nonneg _ (by decide)]
  omega
theorem shr_neg {n : Int} (h0 : n < 0) (h1 : -9223372036854775808 ≤ n) : n.fdiv (2 ^ (min (63 : Int).toNat IntKind.i64.bits)) = -1 := by
  rw [show (2 : Int) ^ (min (63 : Int).toNat IntKind.i64.bits) = 9223372036854775808 by decide, Int.fdiv_eq_ediv_of_nonneg _ (by decide)]
  omega
theorem pow8 (k : Nat) : (2 : Int) ^ (8 * k) = ((256 ^ k : Nat) : Int) := by
  rw [Int.pow_mul]
  simp
theorem shr8 (n j : Nat) (hj : j < 8) : ((n : Int)).fdiv (2 ^ (min ((8 * j : Nat) : Int).toNat IntKind.u64.bits)) = ((n / 256 ^ j : Nat) : Int) := by
  rw [Int.toNat_natCast, show min (8 * j) IntKind.u64.bits = 8 * j from Nat.min_eq_left (by show 8 * j ≤ 64; omega), pow8, Int.fdiv_eq_ediv_of_nonneg _ (Int.natCast_nonneg _)]
  exact (Int.natCast_ediv n (256 ^ j)).symm
theorem Blk_new (w : World) (e : TypeId) : (w.alloc (.cells #[] e)).heap[w.heap.size]? = some (.cells #[] e (0, 0)) := Blk.newE (l := []) rfl _
attribute [local irreducible] W Lst Qst Pu seqQ blkQ rndQ cutQ retQ Does Enters IntKind.wrap bits sb World.alloc World.putObj Blk
theorem c_TextAt (b B : Nat) (l : List UInt8) (s : ByteArray) (w : World) (h : WrAt b B l w) (hlen : l.length + s.size + 20 ≤ 140737488355328) : Does Try.prog 57 #[.pointer (some ⟨b, 0, none⟩), .string s] w fun v w' => v = .tuple #[] ∧ WrAt b B (l ++ (Lib.uvarint s.size ++ s.data.toList)) w' ∧ Off b B w w' := by
  refine Does_of (args := [.pointer (some ⟨b, 0, none⟩), .string s]) Try.func57 (by kernel_rfl) rfl rfl rfl rfl rfl ?_
  have hw : IntKind.u64.wrap (s.size : Int) = ((s.size : Nat) : Int) := wu64 (by omega) (by omega)
  (refine Ga ?_)
  (apply Lst_call; (focus rfl); (focus rfl))
  refine (c_UintAt b B l s.size (by omega) _ h (by omega)).mono ?_
  rintro v w1 ⟨rfl, ⟨hB, sv, hblk, hown, hne⟩, hoff⟩
  (refine Ga ?_)
  apply Lst_sappend (hown := hown)
  focus rfl
  focus rfl
  focus rfl
  focus rfl
  focus rfl
  focus rfl
  focus rfl
  focus rfl
  focus rfl
  focus (rw [List.length_append]; have := Lib.uvarint_length64 (show s.size < 18446744073709551616 by omega); omega)
  focus exact hB
  intro v' w2 ho' hg
  have hblk2 := hblk.grown hg (fun k hk e => hne (by rw [hk, e]))
  have hne2 := own_off ho' hblk2
  have hoff2 : Off b B w1 w2 := Off.grown hown hg hB
  obtain ⟨v1, v2, v3, rfl⟩ := own_slice ho'
  (refine Ga ?_)
  apply retQ0n
  refine ⟨rfl, ⟨?_, _, Blk.put_same hblk2.lt _ _, ?_, hne2⟩, (hoff.trans hoff2).put _⟩
  · rw [World.putObj_size]
    exact Nat.le_trans hB hoff2.size
  · have := own_put' ho' hne2 (.cells [.slice v1 v2 v3].toArray 103)
    rw [← List.append_assoc, List.length_append, List.map_append]
    exact this
theorem c_CloneO (v : Value) (l : List UInt8) (hl : l.length ≤ 100000000) (w : World) (h : Ints w .u8 v (nums l)) : Does Try.prog 59 #[v] w fun u w' => w'.ownsRow w.heap.size 5 1 u l.length (l.map bc) ∧ Below w.heap.size w w' := by
  refine Does_of (args := [v]) Try.func59 (by kernel_rfl) rfl rfl rfl rfl rfl ?_
  obtain ⟨g, off, cap, h1, h2, h3⟩ := h
  rcases h1 with rfl | ⟨⟨a0, rfl⟩, hz⟩
  · (refine Ga ?_)
    apply Lst_pu
    · apply P_slice_nil
      focus rfl
      focus rfl
      focus rfl
      focus rfl
    focus rfl
    (refine Ga ?_)
    apply Lst_none
    focus rfl
    focus rfl
    focus rfl
    focus rfl
    (refine Ga ?_)
    have hlen : (nums l).length = l.length := by simp [nums]
    have hown : (w.alloc (.cells #[] 5)).ownsRow w.heap.size 5 1 (.slice (some ⟨w.heap.size, 0, none⟩) 0 0) 0 [] :=
      ⟨rfl, .inr ⟨w.heap.size, 0, #[], rfl, Nat.le_refl _, Blk_new w _, Nat.le_refl _, Nat.zero_le _, rfl, rfl⟩⟩
    apply Lst_append (hown := hown) (bytes := 1) (news := l.map bc)
    focus rfl
    focus rfl
    focus rfl
    focus rfl
    focus rfl
    focus rfl
    focus rfl
    focus rfl
    focus rfl
    focus (
      intro j u hu
      have hj : j < l.length := by
        have := (List.getElem?_eq_some_iff.1 hu).1
        simpa using this
      have hg : g < w.heap.size := h2 (fun e => by rw [e] at hlen; simp at hlen; omega)
      have h3' := h3 j (by omega)
      have hk : (w.alloc (.cells #[] 5)).cell? ⟨g, off + j, none⟩ = w.cell? ⟨g, off + j, none⟩ := ((Below.refl w.heap.size w).alloc (Nat.le_refl _) _).cell hg
      rw [hk, h3']
      rw [List.getElem?_map, List.getElem?_eq_getElem hj] at hu
      rw [← Option.some.inj hu]
      simp [nums, bc])
    focus (rw [List.length_map]; omega)
    focus (intro u hu; simp only [List.mem_map] at hu; obtain ⟨c, _, rfl⟩ := hu; rfl)
    focus omega
    focus omega
    focus (rw [World.size_alloc]; omega)
    focus rfl
    intro v' w2 ho' hg' _
    obtain ⟨v1, v2, v3, rfl⟩ := own_slice ho'
    (refine Ga ?_)
    (apply retQ1; (focus rfl))
    refine ⟨?_, ?_⟩
    · rw [List.nil_append, Nat.zero_add, hlen] at ho'
      exact ho'
    · exact Below.grown ((Below.refl w.heap.size w).alloc (Nat.le_refl _) _) hg' (by rw [World.size_alloc]; omega) (fun k hk => by
        have : w.heap.size = k := by simpa [Value.ownBlock] using hk
        omega)
  · have hn : l = [] := by simpa [nums] using hz
    subst hn
    cases a0 with
    | none =>
      (refine Ga ?_)
      apply Lst_pu
      · apply P_slice_nil
        focus rfl
        focus rfl
        focus rfl
        focus rfl
      focus rfl
      (refine Ga ?_)
      (apply retQ1; (focus rfl))
      exact ⟨World.ownsRow_nil _ _ _ _, Bel⟩
    | some a0 =>
      (refine Ga ?_)
      apply Lst_pu
      · apply P_slice_nil
        focus rfl
        focus rfl
        focus rfl
        focus rfl
      focus rfl
      (refine Ga ?_)
      apply Lst_none
      focus rfl
      focus rfl
      focus rfl
      focus rfl
      (refine Ga ?_)
      have hown : (w.alloc (.cells #[] 5)).ownsRow w.heap.size 5 1 (.slice (some ⟨w.heap.size, 0, none⟩) 0 0) 0 [] :=
        ⟨rfl, .inr ⟨w.heap.size, 0, #[], rfl, Nat.le_refl _, Blk_new w _, Nat.le_refl _, Nat.zero_le _, rfl, rfl⟩⟩
      apply Lst_append0 (hown := hown) (bytes := 1)
      focus rfl
      focus rfl
      focus rfl
      focus rfl
      focus rfl
      focus rfl
      focus rfl
      focus rfl
      focus rfl
      focus omega
      focus omega
      focus (rw [World.size_alloc]; omega)
      focus rfl
      intro v' w2 ho' hg'
      obtain ⟨v1, v2, v3, rfl⟩ := own_slice ho'
      (refine Ga ?_)
      (apply retQ1; (focus rfl))
      refine ⟨ho', ?_⟩
      exact Below.grown ((Below.refl w.heap.size w).alloc (Nat.le_refl _) _) hg' (by rw [World.size_alloc]; omega) (fun k hk => by
        have : w.heap.size = k := by simpa [Value.ownBlock] using hk
        omega)
theorem c_CloneC (v : Value) (l : List UInt8) (hl : l.length ≤ 100000000) (w : World) (h : Ints w .u8 v (nums l)) : Does Try.prog 59 #[v] w fun u w' => (Ints w' .u8 u (nums l) ∧ Below w.heap.size w w') ∧ ∃ a c, u = .slice a l.length c ∧ l.length ≤ c :=
  (c_CloneO v l hl w h).mono fun u w' h => ⟨⟨by
    have ho := h.1
    rw [← nums_map] at ho
    exact Ints.of_own ho, h.2⟩, own_form h.1⟩
theorem c_Clone (v : Value) (l : List UInt8) (hl : l.length ≤ 100000000) (w : World) (h : Ints w .u8 v (nums l)) : Does Try.prog 59 #[v] w fun u w' => Ints w' .u8 u (nums l) ∧ Below w.heap.size w w' :=
  (c_CloneC v l hl w h).mono fun _ _ h => h.1
theorem h_Bytes (u v : Value) (l k : List UInt8) (w : World) (h : Ints w .u8 u (nums l)) (h' : Ints w .u8 v (nums k)) : Does Try.prog 21 #[u, v] w fun r w' => r = .bool (decide (l = k)) ∧ w = w' := by
  refine Does_of (args := [u, v]) Try.func21 (by kernel_rfl) rfl rfl rfl rfl rfl ?_
  (refine Ga ?_)
  apply Lst_bytesI (l := l)
  focus rfl
  focus exact h
  focus rfl
  focus rfl
  focus rfl
  focus rfl
  (refine Ga ?_)
  apply Lst_bytesI (l := k)
  focus rfl
  focus exact h'
  focus rfl
  focus rfl
  focus rfl
  focus rfl
  by_cases he : l = k
  · have hs : (⟨l.toArray⟩ : ByteArray) = ⟨k.toArray⟩ := by rw [he]
    (refine Ga ?_)
    (apply retQ1; (focus rfl))
    exact ⟨by rw [decide_eq_true he]; rfl, rfl⟩
  · have hs : ¬ (⟨l.toArray⟩ : ByteArray) = ⟨k.toArray⟩ := fun e => he (by simpa using congrArg (fun x : ByteArray => x.data.toList) e)
    (refine Ga ?_)
    (apply retQ1; (focus rfl))
    exact ⟨by rw [decide_eq_false he]; rfl, rfl⟩
theorem c_WBytesO (b B : Nat) (l : List UInt8) (hl : l.length ≤ 100000000) (w : World) (h : WrAt b B l w) : Does Try.prog 58 #[.pointer (some ⟨b, 0, none⟩)] w fun u w' => w'.ownsRow w.heap.size 5 1 u l.length (l.map bc) ∧ Below w.heap.size w w' := by
  refine Does_of (args := [.pointer (some ⟨b, 0, none⟩)]) Try.func58 (by kernel_rfl) rfl rfl rfl rfl rfl ?_
  obtain ⟨hB, sv, hblk, hown, hne⟩ := h
  rw [← nums_map] at hown
  have hi := Ints.of_own hown
  obtain ⟨v1, v2, v3, rfl⟩ := own_slice hown
  (refine Ga ?_)
  (apply Lst_call; (focus rfl); (focus rfl))
  refine (c_CloneO _ l hl _ hi).mono ?_
  rintro u w1 ⟨hu, hb⟩
  obtain ⟨v4, v5, v6, rfl⟩ := own_slice hu
  (refine Ga ?_)
  (apply retQ1; (focus rfl))
  exact ⟨hu, hb⟩
theorem Ints.ofO {w : World} {B nn : Nat} {u : Value} {l : List UInt8} (h : w.ownsRow B 5 1 u nn (l.map bc)) : Ints w .u8 u (nums l) := by
  rw [← nums_map] at h
  exact Ints.of_own h
theorem c_WBytes (b B : Nat) (l : List UInt8) (hl : l.length ≤ 100000000) (w : World) (h : WrAt b B l w) : Does Try.prog 58 #[.pointer (some ⟨b, 0, none⟩)] w fun u w' => Ints w' .u8 u (nums l) ∧ Below w.heap.size w w' :=
  (c_WBytesO b B l hl w h).mono fun _ _ h => ⟨Ints.ofO h.1, h.2⟩
end Wire
end Go.Proofs.Ytoljcnlmockpcaa
